/-
  The plain form of a cell, as a list of values; rows of a word. Plain definitions and lemmas. The lane of chapter 14, in plain Lean: what is certified, what is held and what goes out, tick by tick. No program in sight.
-/
import Derived.Test.YtopakilglnpinaaGc03
namespace Go.Proofs.Ytopakilglnpinaa
open Go.RowKit
set_option linter.unusedVariables false
set_option linter.unusedSimpArgs false

structure Sd where
  is : Bool
  tick : Int
  kind : Int
  st : Int
  seq : Int
  val : Int
def Sd.vals (s : Sd) : List Value := [.bool s.is, .int .i64 s.tick, .int .u8 s.kind, .int .u8 s.st, .int .u32 s.seq, .int .u32 s.val]
def sd0 : Sd := ⟨false, 0, 0, 0, 0, 0⟩
def Sd.good (s : Sd) : Bool := s.is && decide (0 ≤ s.tick) && decide (s.tick ≤ 1099511627776) && (decide (s.kind = 1) || decide (s.kind = 2))
def Sd.norm (s : Sd) : Sd := if s.good then s else sd0
structure Cl where
  age : Int
  o : Sd
  r : Sd
  v : List Value
  cmd : Int
  mode : Int
def Cl.vals (c : Cl) : List Value := .int .i64 c.age :: (c.o.vals ++ (c.r.vals ++ (c.v ++ [.int .i8 c.cmd, .int .u8 c.mode])))
def Cl.norm (c : Cl) : Cl :=
  { age := if c.age < 0 ∨ 1099511627776 < c.age then -1 else c.age, o := c.o.norm, r := c.r.norm, v := c.v,
    cmd := if c.cmd < 0 ∨ 8 ≤ c.cmd then -1 else c.cmd, mode := if 7 < c.mode then 0 else c.mode }
theorem sd0_vals : sd0.vals = saidZ := rfl
theorem Sd.len (s : Sd) : s.vals.length = 6 := rfl

/-- kinds of the view's first 40 cells -/
def view40K : List Kd := [.b, .b, .b, .b, .b, .b, .b, .b] ++ (List.replicate 8 (.i .u8) ++ (List.replicate 8 (.i .u8) ++ (List.replicate 8 (.i .u16) ++ [.b, .b, .b, .b, .b, .b, .b, .b])))
theorem viewK_split : viewK = view40K ++ [.i .i8, .i .u8] := rfl
theorem cellK_split : cellK = .i .i64 :: (saidK ++ (saidK ++ (view40K ++ [.i .i8, .i .u8]))) := rfl
theorem len_view40K : view40K.length = 40 := rfl

def Sd.ok (s : Sd) : Prop := okL saidK s.vals = true
def Cl.ok (c : Cl) : Prop := okL cellK c.vals = true
theorem said_of {l : List Value} (h : okL saidK l = true) : ∃ s : Sd, s.vals = l := by
  match l, okL_len h with
  | [a, b, c, d, e, f], _ =>
    simp only [saidK, okL, Bool.and_eq_true, and_true] at h
    obtain ⟨h1, h2, h3, h4, h5, h6⟩ := h
    cases a <;> simp [okK] at h1
    cases b <;> simp [okK] at h2
    cases c <;> simp [okK] at h3
    cases d <;> simp [okK] at h4
    cases e <;> simp [okK] at h5
    cases f <;> simp [okK] at h6
    obtain ⟨rfl, _⟩ := h2
    obtain ⟨rfl, _⟩ := h3
    obtain ⟨rfl, _⟩ := h4
    obtain ⟨rfl, _⟩ := h5
    obtain ⟨rfl, _⟩ := h6
    exact ⟨⟨_, _, _, _, _, _⟩, rfl⟩
theorem okK_int {k : IntKind} {v : Value} (h : okK (.i k) v = true) : ∃ n, v = .int k n := by
  cases v <;> simp [okK] at h
  obtain ⟨rfl, _⟩ := h
  exact ⟨_, rfl⟩
theorem cell_of {l : List Value} (h : okL cellK l = true) : ∃ c : Cl, c.vals = l ∧ c.v.length = 40 := by
  cases l with
  | nil => simp [cellK, okL] at h
  | cons a l =>
    rw [cellK_split, okL, Bool.and_eq_true] at h
    obtain ⟨h0, h⟩ := h
    obtain ⟨age, rfl⟩ := okK_int h0
    obtain ⟨h1, h⟩ := okL_split h
    obtain ⟨h2, h⟩ := okL_split h
    obtain ⟨h3, h⟩ := okL_split h
    obtain ⟨o, ho⟩ := said_of h1
    obtain ⟨r, hr⟩ := said_of h2
    have h3l := okL_len h3
    have h4l := okL_len h
    match hd : List.drop view40K.length (List.drop saidK.length (List.drop saidK.length l)), h, h4l with
    | [x, y], h, _ =>
      simp only [okL, Bool.and_eq_true, and_true] at h
      obtain ⟨h5, h6⟩ := h
      obtain ⟨cmd, rfl⟩ := okK_int h5
      obtain ⟨mode, rfl⟩ := okK_int h6
      refine ⟨⟨age, o, r, (List.drop saidK.length (List.drop saidK.length l)).take view40K.length, cmd, mode⟩, ?_, h3l.trans len_view40K⟩
      simp only [Cl.vals, ho, hr]
      rw [← hd, List.take_append_drop, List.take_append_drop, List.take_append_drop]
theorem Cl.len {c : Cl} (h : c.v.length = 40) : c.vals.length = 55 := by simp [Cl.vals, h, Sd.len]
theorem Sd.vals_inj {s s' : Sd} : s.vals = s'.vals ↔ s = s' := by
  cases s; cases s'; simp [Sd.vals]
theorem Cl.vals_inj {c c' : Cl} (h : c.v.length = 40) (h' : c'.v.length = 40) : c.vals = c'.vals ↔ c = c' := by
  constructor
  · intro he
    obtain ⟨a, o, r, v, m, n⟩ := c
    obtain ⟨a', o', r', v', m', n'⟩ := c'
    simp only [Cl.vals, List.cons.injEq, Value.int.injEq, true_and] at he
    obtain ⟨rfl, he⟩ := he
    obtain ⟨h1, he⟩ := List.append_inj he rfl
    obtain ⟨h2, he⟩ := List.append_inj he rfl
    obtain ⟨h3, he⟩ := List.append_inj he (by simp at h h'; omega)
    simp at he
    rw [Sd.vals_inj.1 h1, Sd.vals_inj.1 h2, h3, he.1, he.2]
  · rintro rfl; rfl
theorem cell_ok_parts {c : Cl} (h : c.v.length = 40) : okL cellK c.vals = true ↔ (Lit.int .i64 c.age).wf = true ∧ okL saidK c.o.vals = true ∧ okL saidK c.r.vals = true ∧ okL view40K c.v = true ∧ (Lit.int .i8 c.cmd).wf = true ∧ (Lit.int .u8 c.mode).wf = true := by
  constructor
  · intro hk
    rw [cellK_split, Cl.vals, okL, Bool.and_eq_true] at hk
    obtain ⟨h0, hk⟩ := hk
    obtain ⟨h1, hk⟩ := okL_split hk
    obtain ⟨h2, hk⟩ := okL_split hk
    obtain ⟨h3, hk⟩ := okL_split hk
    have e1 : saidK.length = c.o.vals.length := rfl
    have e2 : saidK.length = c.r.vals.length := rfl
    have e3 : view40K.length = c.v.length := by rw [h]; rfl
    have d1 : ∀ Z : List Value, (c.o.vals ++ Z).drop saidK.length = Z := fun Z => by rw [e1, List.drop_left]
    have d2 : ∀ Z : List Value, (c.r.vals ++ Z).drop saidK.length = Z := fun Z => by rw [e2, List.drop_left]
    have t1 : ∀ Z : List Value, (c.o.vals ++ Z).take saidK.length = c.o.vals := fun Z => by rw [e1, List.take_left]
    have t2 : ∀ Z : List Value, (c.r.vals ++ Z).take saidK.length = c.r.vals := fun Z => by rw [e2, List.take_left]
    rw [t1] at h1
    rw [d1, t2] at h2
    rw [d1, d2, e3, List.take_left] at h3
    rw [d1, d2, e3, List.drop_left] at hk
    simp [okL, okK] at hk h0
    exact ⟨h0, h1, h2, h3, hk.1, hk.2⟩
  · rintro ⟨h0, h1, h2, h3, h4, h5⟩
    rw [cellK_split, Cl.vals, okL, Bool.and_eq_true]
    refine ⟨by simp [okK, h0], okL_append h1 (okL_append h2 (okL_append h3 ?_))⟩
    simp [okL, okK, h4, h5]
theorem norm_ok {c : Cl} (h : c.v.length = 40) (hk : okL cellK c.vals = true) : okL cellK c.norm.vals = true := by
  obtain ⟨h0, h1, h2, h3, h4, h5⟩ := (cell_ok_parts h).1 hk
  have hz : okL saidK sd0.vals = true := by decide
  have sd : ∀ s : Sd, okL saidK s.vals = true → okL saidK s.norm.vals = true := fun s hs => by unfold Sd.norm; split; exact hs; exact hz
  refine (cell_ok_parts (c := c.norm) h).2 ⟨?_, sd _ h1, sd _ h2, h3, ?_, ?_⟩
  · simp only [Cl.norm]; split
    · decide
    · exact h0
  · simp only [Cl.norm]; split
    · decide
    · exact h4
  · simp only [Cl.norm]; split
    · decide
    · exact h5

/-! ### the plain form on lists -/
def intA (c : List Value) (i : Nat) : Int := match c[i]? with | some (.int _ n) => n | _ => 0
def boolA (c : List Value) (i : Nat) : Bool := match c[i]? with | some (.bool b) => b | _ => false
def sdAt (c : List Value) (i : Nat) : Sd := ⟨boolA c i, intA c (i + 1), intA c (i + 2), intA c (i + 3), intA c (i + 4), intA c (i + 5)⟩
def clOf (c : List Value) : Cl := ⟨intA c 0, sdAt c 1, sdAt c 7, (c.drop 13).take 40, intA c 53, intA c 54⟩
def nrm (c : List Value) : List Value := (clOf c).norm.vals
theorem clOf_vals (c : Cl) (h : c.v.length = 40) : clOf c.vals = c := by
  obtain ⟨a, o, r, v, m, n⟩ := c
  have h : v.length = 40 := h
  have e1 : ((Cl.vals ⟨a, o, r, v, m, n⟩).drop 13).take 40 = v := by
    simp [Cl.vals, Sd.vals, ← h]
  have e2 : (Cl.vals ⟨a, o, r, v, m, n⟩)[53]? = some (.int .i8 m) := by
    simp [Cl.vals, Sd.vals, List.getElem?_append, h]
  have e3 : (Cl.vals ⟨a, o, r, v, m, n⟩)[54]? = some (.int .u8 n) := by
    simp [Cl.vals, Sd.vals, List.getElem?_append, h]
  unfold clOf
  rw [e1]
  simp only [intA, e2, e3]
  rfl
theorem nrm_vals (c : Cl) (h : c.v.length = 40) : nrm c.vals = c.norm.vals := by rw [nrm, clOf_vals c h]
theorem nrm_ok {c : List Value} (h : okL cellK c = true) : okL cellK (nrm c) = true := by
  obtain ⟨C, rfl, hC⟩ := cell_of h
  rw [nrm_vals C hC]
  exact norm_ok hC h
def Hd.nrm (h : Hd) : Hd := if h.is then ⟨true, Ytopakilglnpinaa.nrm h.c⟩ else hd0
theorem Hd.nrm_ok {h : Hd} (hk : h.ok) : h.nrm.ok := by
  unfold Hd.nrm
  split
  · exact Ytopakilglnpinaa.nrm_ok hk
  · exact hd0_ok

/-! ### rows -/
structure Rw where
  is : Bool
  c : List Value
  t : List Hd
def Rw.ok (r : Rw) : Prop := okL cellK r.c = true ∧ ∀ h ∈ r.t, h.ok
def Rw.vals (r : Rw) (tv : Value) : List Value := .bool r.is :: (r.c ++ [tv])
def rw0 : Rw := ⟨false, cellZ, []⟩
theorem rw0_ok : rw0.ok := ⟨cellZ_ok, by simp [rw0]⟩
theorem rw0_vals : rw0.vals (.slice none 0 0) = rowZ := rfl
theorem Rw.len {r : Rw} (h : r.ok) (tv : Value) : (r.vals tv).length = 57 := by
  have := okL_len h.1
  rw [len_cellK] at this
  simp [Rw.vals, this]
/-- just n of a list, each made plain; none: nothing -/
def fillH (n : Nat) (l : List Hd) : List Hd := (l.take n).map Hd.nrm ++ List.replicate (n - l.length) hd0
theorem fillH_len (n : Nat) (l : List Hd) : (fillH n l).length = n := by simp [fillH]; omega
theorem fillH_ok {n : Nat} {l : List Hd} (h : ∀ x ∈ l, x.ok) : ∀ x ∈ fillH n l, x.ok := fun x hx => by
  rcases List.mem_append.1 hx with hx | hx
  · obtain ⟨y, hy, rfl⟩ := List.mem_map.1 hx
    exact Hd.nrm_ok (h y (List.mem_of_mem_take hy))
  · rw [List.eq_of_mem_replicate hx]; exact hd0_ok
theorem fillH_at (n : Nat) (l : List Hd) (k : Nat) (hk : k < n) : (fillH n l)[k]? = some (match l[k]? with | some h => h.nrm | none => hd0) := by
  unfold fillH
  by_cases h : k < l.length
  · rw [List.getElem?_append_left (by simp; omega), List.getElem?_map, List.getElem?_take, if_pos hk, List.getElem?_eq_getElem h]; rfl
  · rw [List.getElem?_append_right (by simp; omega), List.getElem?_replicate, if_pos (by simp; omega), List.getElem?_eq_none (by omega)]
def mayN (n : Int) : Bool := decide (0 ≤ n) && decide (n ≤ 16)
def Rw.plain (n : Int) (r : Rw) : Rw := if r.is && mayN n then ⟨true, nrm r.c, fillH n.toNat r.t⟩ else rw0
theorem Rw.plain_ok {n : Int} {r : Rw} (h : r.ok) : (r.plain n).ok := by
  unfold Rw.plain
  split
  · exact ⟨nrm_ok h.1, fillH_ok h.2⟩
  · exact rw0_ok
def fillR (n : Nat) (l : List Rw) : List Rw := (l.take n).map (Rw.plain n) ++ List.replicate (n - l.length) rw0
def normW (n : Int) (l : List Rw) : List Rw := if mayN n then fillR n.toNat l else []
theorem fillR_len (n : Nat) (l : List Rw) : (fillR n l).length = n := by simp [fillR]; omega
theorem fillR_at (n : Nat) (l : List Rw) (k : Nat) (hk : k < n) : (fillR n l)[k]? = some (match l[k]? with | some r => r.plain n | none => rw0) := by
  unfold fillR
  by_cases h : k < l.length
  · rw [List.getElem?_append_left (by simp; omega), List.getElem?_map, List.getElem?_take, if_pos hk, List.getElem?_eq_getElem h]; rfl
  · rw [List.getElem?_append_right (by simp; omega), List.getElem?_replicate, if_pos (by simp; omega), List.getElem?_eq_none (by omega)]

/-- A slice that reads as a list of rows; all blocks that it leads to are of S. -/
def RdRs (S : Nat → Prop) (w : World) (a : Option Addr) (len : Nat) (l : List Rw) : Prop :=
  l.length = len ∧ (∀ r ∈ l, r.ok) ∧ ∀ k r, l[k]? = some r → ∃ b off x m cap, a = some ⟨b, off, none⟩ ∧ S b ∧ b < w.heap.size ∧ hasRow w ⟨b, off + k * 57, none⟩ 57 = true ∧ rowOf w ⟨b, off + k * 57, none⟩ 57 = r.vals (.slice x m cap) ∧
    RdHs S w x m r.t ∧ m ≤ cap ∧ cap ≤ maxLen
theorem RdRs.keep {S : Nat → Prop} {w w' : World} {a : Option Addr} {len : Nat} {l : List Rw} (h : RdRs S w a len l) (hs : w.heap.size ≤ w'.heap.size) (hk : ∀ b, S b → b < w.heap.size → w'.heap[b]? = w.heap[b]?) : RdRs S w' a len l :=
  ⟨h.1, h.2.1, fun k x hx => by
    obtain ⟨b, off, y, m, cap, e, hS, hb, h1, h2, h3, h4⟩ := h.2.2 k x hx
    have := row_block (n := 57) (p := ⟨b, off + k * 57, none⟩) (hk b hS hb)
    exact ⟨b, off, y, m, cap, e, hS, by omega, this.1.trans h1, this.2.trans h2, h3.keep hs hk, h4⟩⟩
theorem RdRs.mono {S S' : Nat → Prop} {w : World} {a : Option Addr} {len : Nat} {l : List Rw} (h : RdRs S w a len l) (hs : ∀ b, b < w.heap.size → S b → S' b) : RdRs S' w a len l :=
  ⟨h.1, h.2.1, fun k x hx => by
    obtain ⟨b, off, y, m, cap, e, hS, hb, h1, h2, h3, h4⟩ := h.2.2 k x hx
    exact ⟨b, off, y, m, cap, e, hs b hb hS, hb, h1, h2, h3.mono hs, h4⟩⟩
theorem RdRs.below {S : Nat → Prop} {w w' : World} {B : Nat} {a : Option Addr} {len : Nat} {l : List Rw} (h : RdRs S w a len l) (hb : Below B w w') (hB : ∀ b, S b → b < w.heap.size → b < B) : RdRs S w' a len l :=
  h.keep hb.size fun b hS hlt => hb.block b (hB b hS hlt)
theorem RdRs.chg {S S' : Nat → Prop} {w w' : World} {a : Option Addr} {len : Nat} {l : List Rw} (h : RdRs S w a len l) (hc : Chg S' w w') (hd : ∀ b, b < w.heap.size → S b → ¬ S' b) : RdRs S w' a len l :=
  h.keep hc.size fun b hS hlt => hc.block b hlt (hd b hlt hS)
/-- what a walk needs of row k -/
theorem RdRs.at_ {S : Nat → Prop} {w : World} {a : Option Addr} {len : Nat} {l : List Rw} (h : RdRs S w a len l) (k : Nat) (hk : k < len) :
    ∃ b off x m cap r, a = some ⟨b, off, none⟩ ∧ S b ∧ b < w.heap.size ∧ l[k]? = some r ∧ r.ok ∧ r.c.length = 55 ∧ r.c.all cell1 = true ∧
      hasRow w ⟨b, off + k * 57, none⟩ 57 = true ∧ rowOf w ⟨b, off + k * 57, none⟩ 57 = .bool r.is :: (r.c ++ [.slice x m cap]) ∧
      w.cell? ⟨b, off + k * 57, none⟩ = some (.bool r.is) ∧ w.cell? ⟨b, off + k * 57 + 56, none⟩ = some (.slice x m cap) ∧
      RdHs S w x m r.t ∧ m ≤ cap ∧ cap ≤ maxLen := by
  obtain ⟨h1, h2, h3⟩ := h
  have hv : l[k]? = some (l[k]'(by omega)) := List.getElem?_eq_getElem _
  obtain ⟨b, off, x, m, cap, e, hS, hb, hr1, hr2, h4, h5, h6⟩ := h3 k _ hv
  have ho := h2 _ (List.mem_of_getElem? hv)
  generalize l[k]'(by omega) = r at hv hr2 ho h4
  have hlen : r.c.length = 55 := by rw [← len_cellK]; exact okL_len ho.1
  refine ⟨b, off, x, m, cap, r, e, hS, hb, hv, ho, hlen, okL_cell1 ho.1, hr1, hr2, ?_, ?_, h4, h5, h6⟩
  · have := row_cell hr1 hr2 0 (by omega)
    simpa [Rw.vals] using this
  · have := row_cell hr1 hr2 56 (by omega)
    simpa [Rw.vals, List.getElem?_append, hlen] using this
end Go.Proofs.Ytopakilglnpinaa
namespace Go.Proofs.Ytopakilglnpinaa
open Go.RowKit
set_option linter.unusedVariables false
set_option linter.unusedSimpArgs false

/-! ### what is certified -/
open Classical in
/-- the walk over pairs (a row, one ahead of it) -/
noncomputable def certF : List (Rw × Rw) → Rw → Rw
  | [], out => out
  | (r, o) :: t, out => if r.is = true ∧ r = o then (if out.is = true ∧ out ≠ r then rw0 else certF t r) else certF t out
/-- all pairs of the i-th row -/
def prsAt (l : List Rw) (i : Nat) : List (Rw × Rw) := (l.take i).map fun o => (l.getD i rw0, o)
def prs (l : List Rw) : List (Rw × Rw) := (List.range l.length).flatMap (prsAt l)
noncomputable def certM (l : List Rw) : Rw := certF (prs l) rw0

def hits (p : List (Rw × Rw)) (r : Rw) : Prop := r.is = true ∧ (r, r) ∈ p
theorem certF_none {p : List (Rw × Rw)} : ∀ {out : Rw}, (∀ r, ¬ hits p r) → certF p out = out := by
  induction p with
  | nil => intro out _; rfl
  | cons x t ih =>
    obtain ⟨r, o⟩ := x
    intro out h
    have h1 : ¬ (r.is = true ∧ r = o) := by
      rintro ⟨a, rfl⟩
      exact h r ⟨a, List.mem_cons_self⟩
    simp only [certF, if_neg h1]
    exact ih fun q hq => h q ⟨hq.1, List.mem_cons_of_mem _ hq.2⟩
theorem certF_one {p : List (Rw × Rw)} : ∀ {out v : Rw}, v.is = true → (∀ r, hits p r → r = v) → (out = v ∨ out.is = false ∧ hits p v) → certF p out = v := by
  induction p with
  | nil =>
    intro out v hv _ h
    rcases h with h | ⟨-, -, h⟩
    · exact h
    · cases h
  | cons x t ih =>
    obtain ⟨r, o⟩ := x
    intro out v hv hall h
    by_cases h1 : r.is = true ∧ r = o
    · obtain ⟨hr, rfl⟩ := h1
      have hrv := hall r ⟨hr, List.mem_cons_self⟩
      subst hrv
      have h2 : ¬ (out.is = true ∧ out ≠ r) := by
        rintro ⟨a, b⟩
        rcases h with h | ⟨h, -⟩
        · exact b h
        · rw [h] at a; cases a
      simp only [certF, hr, and_self, if_true, if_neg h2]
      exact ih hv (fun q hq => hall q ⟨hq.1, List.mem_cons_of_mem _ hq.2⟩) (.inl rfl)
    · simp only [certF, if_neg h1]
      refine ih hv (fun q hq => hall q ⟨hq.1, List.mem_cons_of_mem _ hq.2⟩) ?_
      rcases h with h | ⟨h, h3, h4⟩
      · exact .inl h
      · refine .inr ⟨h, h3, ?_⟩
        rcases List.mem_cons.1 h4 with e | e
        · cases e; exact absurd ⟨hv, rfl⟩ h1
        · exact e
theorem certF_two {p : List (Rw × Rw)} : ∀ {out v v' : Rw}, v ≠ v' → (hits p v ∨ out = v ∧ v.is = true) → hits p v' → certF p out = rw0 := by
  induction p with
  | nil => intro out v v' _ _ h; cases h.2
  | cons x t ih =>
    obtain ⟨r, o⟩ := x
    intro out v v' hne hv hv'
    by_cases h1 : r.is = true ∧ r = o
    · obtain ⟨hr, rfl⟩ := h1
      by_cases h2 : out.is = true ∧ out ≠ r
      · simp only [certF, hr, and_self, if_true, if_pos h2, true_and]

      · simp only [certF, hr, and_self, if_true, if_neg h2]
        by_cases e : r = v'
        · subst e
          have hm : hits t v := by
            rcases hv with ⟨h3, h4⟩ | ⟨h3, h4⟩
            · refine ⟨h3, ?_⟩
              rcases List.mem_cons.1 h4 with e | e
              · cases e; exact absurd rfl hne
              · exact e
            · subst h3
              exact absurd ⟨h4, hne⟩ h2
          exact ih (v := r) (v' := v) (Ne.symm hne) (.inr ⟨rfl, hr⟩) hm
        · have hm : hits t v' := by
            refine ⟨hv'.1, ?_⟩
            rcases List.mem_cons.1 hv'.2 with q | q
            · cases q; exact absurd rfl e
            · exact q
          exact ih (v := r) (v' := v') e (.inr ⟨rfl, hr⟩) hm
    · simp only [certF, if_neg h1]
      have hk : ∀ q, hits ((r, o) :: t) q → hits t q := fun q hq => ⟨hq.1, by
        rcases List.mem_cons.1 hq.2 with e | e
        · cases e; exact absurd ⟨hq.1, rfl⟩ h1
        · exact e⟩
      refine ih hne ?_ (hk _ hv')
      rcases hv with h | h
      · exact .inl (hk _ h)
      · exact .inr h

/-- at least two of a list are that one -/
def Dup (l : List Rw) (v : Rw) : Prop := v.is = true ∧ ∃ j i : Nat, j < i ∧ l[j]? = some v ∧ l[i]? = some v
theorem hits_prs {l : List Rw} {v : Rw} : hits (prs l) v ↔ Dup l v := by
  unfold hits Dup prs prsAt
  constructor
  · rintro ⟨h, hm⟩
    refine ⟨h, ?_⟩
    obtain ⟨i, hi, hm⟩ := List.mem_flatMap.1 hm
    obtain ⟨o, ho, e⟩ := List.mem_map.1 hm
    have hil : i < l.length := List.mem_range.1 hi
    obtain ⟨j, hj, e2⟩ := List.getElem_of_mem ho
    rw [List.length_take] at hj
    cases e
    refine ⟨j, i, by omega, ?_, ?_⟩
    · rw [List.getElem_take] at e2
      rw [List.getElem?_eq_getElem (by omega), e2]
    · rw [List.getElem?_eq_getElem hil, List.getD_eq_getElem?_getD, List.getElem?_eq_getElem hil]; rfl
  · rintro ⟨h, j, i, hji, h1, h2⟩
    refine ⟨h, List.mem_flatMap.2 ⟨i, List.mem_range.2 (List.getElem?_eq_some_iff.1 h2).1, List.mem_map.2 ⟨v, ?_, ?_⟩⟩⟩
    · refine List.mem_of_getElem? (i := j) ?_
      rw [List.getElem?_take, if_pos hji, h1]
    · rw [List.getD_eq_getElem?_getD, h2]; rfl
theorem certM_one {l : List Rw} {v : Rw} (h : Dup l v) (hall : ∀ r, Dup l r → r = v) : certM l = v :=
  certF_one h.1 (fun r hr => hall r (hits_prs.1 hr)) (.inr ⟨rfl, hits_prs.2 h⟩)
theorem certM_none {l : List Rw} (h : ∀ r, ¬ Dup l r) : certM l = rw0 := certF_none fun r hr => h r (hits_prs.1 hr)
theorem certM_two {l : List Rw} {v v' : Rw} (hne : v ≠ v') (h : Dup l v) (h' : Dup l v') : certM l = rw0 := certF_two hne (.inl (hits_prs.2 h)) (hits_prs.2 h')
/-- either nothing, or one that two have -/
theorem certM_or (l : List Rw) : certM l = rw0 ∨ Dup l (certM l) := by
  by_cases h : ∃ v, Dup l v
  · obtain ⟨v, hv⟩ := h
    by_cases h2 : ∀ r, Dup l r → r = v
    · exact .inr (by rw [certM_one hv h2]; exact hv)
    · have : ∃ r, Dup l r ∧ r ≠ v := Classical.byContradiction fun hn => h2 fun r hr => Classical.byContradiction fun hne => hn ⟨r, hr, hne⟩
      obtain ⟨r, hr, hne⟩ := this
      exact .inl (certM_two hne hr hv)
  · exact .inl (certM_none fun r hr => h ⟨r, hr⟩)
theorem certM_ok {l : List Rw} (h : ∀ r ∈ l, r.ok) : (certM l).ok := by
  rcases certM_or l with e | ⟨-, -, i, -, -, e⟩
  · rw [e]; exact rw0_ok
  · exact h _ (List.mem_of_getElem? e)

/-! ### the lane -/
def tab (n : Nat) (f : Nat → Rw) : List Rw := (List.range n).map f
theorem tab_len (n : Nat) (f : Nat → Rw) : (tab n f).length = n := by simp [tab]
theorem tab_at {n : Nat} {f : Nat → Rw} {k : Nat} (h : k < n) : (tab n f)[k]? = some (f k) := by simp [tab, h]
theorem tab_mem {n : Nat} {f : Nat → Rw} {r : Rw} (h : r ∈ tab n f) : ∃ k, k < n ∧ r = f k := by
  simp only [tab, List.mem_map, List.mem_range] at h
  obtain ⟨k, h1, h2⟩ := h
  exact ⟨k, h1, h2.symm⟩
theorem tab_ext {n : Nat} {l : List Rw} {f : Nat → Rw} (h1 : l.length = n) (h2 : ∀ k, k < n → l[k]? = some (f k)) : l = tab n f := by
  apply List.ext_getElem?
  intro k
  by_cases hk : k < n
  · rw [h2 k hk, tab_at hk]
  · rw [List.getElem?_eq_none (by omega), List.getElem?_eq_none (by rw [tab_len]; omega)]
theorem tab_congr {n : Nat} {f g : Nat → Rw} (h : ∀ k, k < n → f k = g k) : tab n f = tab n g := tab_ext (tab_len _ _) fun k hk => by rw [tab_at hk, h k hk]
theorem tab_set {n : Nat} {f g : Nat → Rw} {k : Nat} (hk : k < n) (h : ∀ j, j < n → j ≠ k → g j = f j) : (tab n f).set k (g k) = tab n g := by
  refine tab_ext (by rw [List.length_set, tab_len]) fun j hj => ?_
  rw [List.getElem?_set]
  by_cases e : k = j
  · subst e; rw [if_pos rfl, if_pos (by rw [tab_len]; exact hk)]
  · rw [if_neg e, tab_at hj, h j hj (Ne.symm e)]

theorem tab_put {n : Nat} {f g : Nat → Rw} {k : Nat} {x : Rw} (hk : k < n) (hx : g k = x) (h : ∀ j, j < n → j ≠ k → g j = f j) : (tab n f).set k x = tab n g := by rw [← hx]; exact tab_set hk h

/-- how far a source is, with the clock (way 0), or against it -/
def distM (n me way s : Nat) : Nat := if way = 0 then (me + n - s) % n else (s + n - me) % n
/-- a row that came, in plain form -/
def inRow (n : Nat) (l : List Rw) (s : Nat) : Rw := match l[s]? with | some r => r.plain n | none => rw0
theorem fillR_tab (n : Nat) (l : List Rw) : fillR n l = tab n (inRow n l) := tab_ext (fillR_len n l) fun k hk => by rw [fillR_at n l k hk]; rfl
/-- one way's rows at a tick: q = 0 the track, 1 the near ones -/
def sideM (n me way : Nat) (near far : List Rw) (q s : Nat) : Rw :=
  if distM n me way s = 0 then rw0 else if distM n me way s = 1 then (if q = 0 then inRow n near s else rw0) else (if q = 0 then inRow n far s else inRow n near s)
/-- what four links bring: 0 near, 1 far with the clock, 2 near, 3 far against it; which of a tick's lists (0, 1 with the clock: track, near; 2, 3 against it), which source -/
def momM (n me : Nat) (ins : Nat → List Rw) (q s : Nat) : Rw := sideM n me (q / 2) (ins (2 * (q / 2))) (ins (2 * (q / 2) + 1)) (q % 2) s
structure LaneM where
  n : Nat
  me : Nat
  T : Nat
  b : Bool
  past : Nat → Nat → Nat → Rw
def LaneM.new (n me : Nat) : LaneM := ⟨n, me, 0, false, fun _ _ _ => rw0⟩
/-- what is certified of a source, by what was so many ticks ago -/
noncomputable def ofM (n me s : Nat) (was : Nat → Nat → Nat → Rw) : Rw :=
  if s = me then was n 0 s else certM [was (n - distM n me 0 s) 0 s, was (n - distM n me 0 s) 1 s, was (n - distM n me 1 s) 2 s, was (n - distM n me 1 s) 3 s]
def LaneM.put (L : LaneM) (ins : Nat → List Rw) : LaneM :=
  { L with T := L.T + 1, b := true, past := fun j => if j = L.T % (L.n + 1) then momM L.n L.me ins else L.past j }
/-- held, behind 'put' -/
noncomputable def LaneM.held (L : LaneM) (s : Nat) : Rw :=
  if L.n ≤ L.T - 1 then ofM L.n L.me s (fun ago => L.past ((L.T - 1 - ago) % (L.n + 1))) else rw0
def LaneM.said (L : LaneM) (own : Rw) : LaneM :=
  if L.b then { L with b := false, past := fun j q s => if j = (L.T - 1) % (L.n + 1) ∧ q % 2 = 0 ∧ s = L.me then own.plain L.n else L.past j q s } else L
/-- what goes out: behind 'said' -/
def LaneM.out (L : LaneM) (q : Nat) : List Rw := tab L.n (L.past ((L.T - 1) % (L.n + 1)) q)

def LaneM.okP (L : LaneM) : Prop := ∀ j q s, (L.past j q s).ok
theorem inRow_ok {n : Nat} {l : List Rw} (h : ∀ r ∈ l, r.ok) (s : Nat) : (inRow n l s).ok := by
  unfold inRow
  split
  · exact Rw.plain_ok (h _ (List.mem_of_getElem? ‹_›))
  · exact rw0_ok
theorem sideM_ok {n me way : Nat} {near far : List Rw} (h1 : ∀ r ∈ near, r.ok) (h2 : ∀ r ∈ far, r.ok) (q s : Nat) : (sideM n me way near far q s).ok := by
  unfold sideM
  repeat' split
  all_goals first | exact rw0_ok | exact inRow_ok h1 _ | exact inRow_ok h2 _
theorem momM_ok {n me : Nat} {ins : Nat → List Rw} (h : ∀ i, ∀ r ∈ ins i, r.ok) (q s : Nat) : (momM n me ins q s).ok := sideM_ok (h _) (h _) _ _
theorem LaneM.new_ok (n me : Nat) : (LaneM.new n me).okP := fun _ _ _ => rw0_ok
theorem LaneM.put_ok {L : LaneM} (h : L.okP) {ins : Nat → List Rw} (hi : ∀ i, ∀ r ∈ ins i, r.ok) : (L.put ins).okP := fun j q s => by
  simp only [LaneM.put]
  split
  · exact momM_ok hi q s
  · exact h j q s
theorem LaneM.said_ok {L : LaneM} (h : L.okP) {own : Rw} (ho : own.ok) : (L.said own).okP := fun j q s => by
  unfold LaneM.said
  split
  · simp only
    split
    · exact Rw.plain_ok ho
    · exact h j q s
  · exact h j q s
theorem ofM_ok {n me s : Nat} {was : Nat → Nat → Nat → Rw} (h : ∀ a q s, (was a q s).ok) : (ofM n me s was).ok := by
  unfold ofM
  split
  · exact h _ _ _
  · refine certM_ok fun r hr => ?_
    simp only [List.mem_cons, List.not_mem_nil, or_false] at hr
    rcases hr with rfl | rfl | rfl | rfl <;> exact h _ _ _
theorem LaneM.held_ok {L : LaneM} (h : L.okP) (s : Nat) : (L.held s).ok := by
  unfold LaneM.held
  split
  · exact ofM_ok fun a q s => h _ q s
  · exact rw0_ok
theorem LaneM.out_ok {L : LaneM} (h : L.okP) (q : Nat) : ∀ r ∈ L.out q, r.ok := fun r hr => by
  obtain ⟨k, -, rfl⟩ := tab_mem hr
  exact h _ _ _
/-! ### tables are short -/
theorem plain_tlen {n : Int} {r : Rw} : (r.plain n).t.length ≤ 16 := by
  unfold Rw.plain
  split
  · rename_i h
    simp [mayN] at h
    rw [fillH_len]
    omega
  · simp [rw0]
def LaneM.okT (L : LaneM) : Prop := ∀ j q s, (L.past j q s).t.length ≤ 16
theorem inRow_tlen {n : Nat} {l : List Rw} (s : Nat) : (inRow n l s).t.length ≤ 16 := by
  unfold inRow
  split
  · exact plain_tlen
  · simp [rw0]
theorem momM_tlen {n me : Nat} {ins : Nat → List Rw} (q s : Nat) : (momM n me ins q s).t.length ≤ 16 := by
  unfold momM sideM
  repeat' split
  all_goals first | exact inRow_tlen _ | simp [rw0]
theorem LaneM.new_okT (n me : Nat) : (LaneM.new n me).okT := fun _ _ _ => by simp [LaneM.new, rw0]
theorem LaneM.put_okT {L : LaneM} (h : L.okT) (ins : Nat → List Rw) : (L.put ins).okT := fun j q s => by
  simp only [LaneM.put]
  split
  · exact momM_tlen q s
  · exact h j q s
theorem LaneM.said_okT {L : LaneM} (h : L.okT) (own : Rw) : (L.said own).okT := fun j q s => by
  unfold LaneM.said
  split
  · simp only
    split
    · exact plain_tlen
    · exact h j q s
  · exact h j q s
theorem ofM_tlen {n me s : Nat} {was : Nat → Nat → Nat → Rw} (h : ∀ a q s, (was a q s).t.length ≤ 16) : (ofM n me s was).t.length ≤ 16 := by
  unfold ofM
  split
  · exact h _ _ _
  · rcases certM_or [was (n - distM n me 0 s) 0 s, was (n - distM n me 0 s) 1 s, was (n - distM n me 1 s) 2 s, was (n - distM n me 1 s) 3 s] with e | ⟨-, -, i, -, -, e⟩
    · rw [e]; simp [rw0]
    · have := List.mem_of_getElem? e
      simp only [List.mem_cons, List.not_mem_nil, or_false] at this
      rcases this with e | e | e | e <;> rw [e] <;> exact h _ _ _
theorem LaneM.held_tlen {L : LaneM} (h : L.okT) (s : Nat) : (L.held s).t.length ≤ 16 := by
  unfold LaneM.held
  split
  · exact ofM_tlen fun a q s => h _ q s
  · simp [rw0]
theorem LaneM.out_tlen {L : LaneM} (h : L.okT) (q : Nat) : ∀ r ∈ L.out q, r.t.length ≤ 16 := fun r hr => by
  obtain ⟨k, -, rfl⟩ := tab_mem hr
  exact h _ _ _
end Go.Proofs.Ytopakilglnpinaa
