/-
  (*sennitlaw14.Ring).ins, Bad. (*sennitlaw14.Ring).Bad. (*sennitlaw14.Ring).fits. sennitlaw14.at, at a moment that is not below zero.
-/
import Derived.Test.YtbdklfcgcmdgaaaGb23
namespace Go.Proofs.Ytbdklfcgcmdgaaa
open Go.RowKit
set_option linter.unusedVariables false
set_option linter.unusedSimpArgs false

theorem SentAt.below {S : Nat → Prop} {w w' : World} {v : Value} {N : Nat} {L : List WordsM} (h : SentAt S w v N L) (hb : Below w.heap.size w w') : SentAt S w' v N L := by
  refine h.keep hb.size (fun b _ hl => hb.block b hl) fun g hg => ?_
  obtain ⟨xs, h1, h2, h3⟩ := h.xs
  exact hb.block g (h2.lt g hg).2
theorem WdAt.below {S : Nat → Prop} {w w' : World} {v : Value} {l : List Rw} (h : WdAt S w v l) (hb : Below w.heap.size w w') : WdAt S w' v l := h.keep hb.size fun b _ hl => hb.block b hl
/-- four words by value -/
theorem four_words {S : Nat → Prop} {w : World} {u0 u1 u2 u3 : Value} {ins : Nat → List Rw} (h0 : WdAt S w u0 (ins 0)) (h1 : WdAt S w u1 (ins 1)) (h2 : WdAt S w u2 (ins 2)) (h3 : WdAt S w u3 (ins 3)) :
    ∃ a ln cp, u0 = insV a ln cp 0 ∧ u1 = insV a ln cp 1 ∧ u2 = insV a ln cp 2 ∧ u3 = insV a ln cp 3 ∧ InsR S w a ln cp ins := by
  obtain ⟨a0, n0, c0, e0, p0, q0⟩ := h0
  obtain ⟨a1, n1, c1, e1, p1, q1⟩ := h1
  obtain ⟨a2, n2, c2, e2, p2, q2⟩ := h2
  obtain ⟨a3, n3, c3, e3, p3, q3⟩ := h3
  have hi4 : ∀ i, i < 4 → i = 0 ∨ i = 1 ∨ i = 2 ∨ i = 3 := fun i h => by omega
  refine ⟨fun i => if i = 0 then a0 else if i = 1 then a1 else if i = 2 then a2 else a3, fun i => if i = 0 then n0 else if i = 1 then n1 else if i = 2 then n2 else n3, fun i => if i = 0 then c0 else if i = 1 then c1 else if i = 2 then c2 else c3, e0, e1, e2, e3, ⟨fun i hi => ?_, fun i hi => ?_⟩⟩
  · rcases hi4 i hi with rfl | rfl | rfl | rfl
    · exact p0
    · exact p1
    · exact p2
    · exact p3
  · rcases hi4 i hi with rfl | rfl | rfl | rfl
    · exact q0
    · exact q1
    · exact q2
    · exact q3
theorem WdAt.cell {S : Nat → Prop} {w : World} {v : Value} {l : List Rw} (h : WdAt S w v l) : cell1 v = true := by
  obtain ⟨a, n, c, rfl, -⟩ := h
  rfl
theorem ag_ins4 : aggOf Try.prog 36 4 = true := by kernel_rfl
@[go_sem ↓] theorem st_ins4 (ρ : Operand → Value) (d : Option Tmp) (x y : Operand) (ty : TypeId) (s : String) (af : Array Edge) (g : Option (Nat × Bool)) (w : World) (h1 : okAgg 4 (ρ y) = true) (h2 : canPutV w 4 (ρ x) = true) :
    (execOp ρ { dst := d, op := .store 36 x y, type := ty, pos := s, after := af, guard := g }).run Try.prog w = .ok .skip (putV w (ρ x) (ρ y)) := exec_store ag_ins4 ρ d x y ty s af g w h1 h2
def InsPost (S : Nat → Prop) (ins : Nat → List Rw) (w : World) (e : Ending) (w' : World) : Prop := ∃ a ln cp, e = .returned (.agg #[insV a ln cp 0, insV a ln cp 1, insV a ln cp 2, insV a ln cp 3]) ∧ InsR S w' a ln cp ins ∧ Below w.heap.size w w'
set_option maxRecDepth 100000 in
set_option maxHeartbeats 2000000 in
theorem ins_any (S : Nat → Prop) (rg : Nat) (R : RingM) (sv : Value) (i : Nat) (w : World) (hN : w.cell? ⟨rg, 0, none⟩ = some (.int .i64 R.N)) (hsv : w.cell? ⟨rg, 7, none⟩ = some sv) (hrg : rg < w.heap.size) (h4 : 4 ≤ R.N) (h16 : R.N ≤ 16)
    (hi : i < R.N) (hS : SentAt S w sv R.N R.sent) (hlen : R.sent.length ≤ 1000000) (hSl : ∀ b, S b → b < w.heap.size) :
    Calls Try.prog 61 #[.pointer (some ⟨rg, 0, none⟩), .int .i64 i] w (InsPost S (R.insM i) w) := by
  have F : Hid (∀ w' : World, Below w.heap.size w w' → ∀ (y : Int) (z link ago : Nat), y + 2 * R.N = (z : Int) → z ≤ 1000 → link < 4 → 1 ≤ ago → ago ≤ 1000 →
      Calls Try.prog 89 #[.pointer (some ⟨rg, 0, none⟩), .int .i64 y, .int .i64 link, .int .i64 ago] w' (SentPost S (R.sentM z link ago) w')) := Lib.hid fun w' hb y z link ago h1 h2 h3 h4' h5 =>
    sent_any S rg R sv y z link ago w' ((hb.cell (p := ⟨rg, 0, none⟩) hrg).trans hN) ((hb.cell (p := ⟨rg, 7, none⟩) hrg).trans hsv) (Nat.lt_of_lt_of_le hrg hb.size) h4 h16 h1 h2 h3 h4' h5 (hS.below hb) hlen (fun b hb' => Nat.lt_of_lt_of_le (hSl b hb') hb.size)
  obtain ⟨N, hNN⟩ : ∃ N, N = R.N := ⟨_, rfl⟩
  rw [← hNN] at F h4 h16 hi
  have F0 : Hid (∀ w' : World, Below w.heap.size w w' → Calls Try.prog 89 #[.pointer (some ⟨rg, 0, none⟩), .int .i64 ((i : Int) - 1), .int .i64 0, .int .i64 1] w' (SentPost S (R.insM i 0) w')) := Lib.hid fun w' hb => by
    have := F.out w' hb ((i : Int) - 1) (i + 2 * N - 1) 0 1 (by omega) (by omega) (by omega) (by omega) (by omega)
    rw [hNN] at this
    exact this
  have F1 : Hid (∀ w' : World, Below w.heap.size w w' → Calls Try.prog 89 #[.pointer (some ⟨rg, 0, none⟩), .int .i64 ((i : Int) - 2), .int .i64 1, .int .i64 2] w' (SentPost S (R.insM i 1) w')) := Lib.hid fun w' hb => by
    have := F.out w' hb ((i : Int) - 2) (i + 2 * N - 2) 1 2 (by omega) (by omega) (by omega) (by omega) (by omega)
    rw [hNN] at this
    exact this
  have F2 : Hid (∀ w' : World, Below w.heap.size w w' → Calls Try.prog 89 #[.pointer (some ⟨rg, 0, none⟩), .int .i64 ((i : Int) + 1), .int .i64 2, .int .i64 1] w' (SentPost S (R.insM i 2) w')) := Lib.hid fun w' hb => by
    have := F.out w' hb ((i : Int) + 1) (i + 2 * N + 1) 2 1 (by omega) (by omega) (by omega) (by omega) (by omega)
    rw [hNN] at this
    exact this
  have F3 : Hid (∀ w' : World, Below w.heap.size w w' → Calls Try.prog 89 #[.pointer (some ⟨rg, 0, none⟩), .int .i64 ((i : Int) + 2), .int .i64 3, .int .i64 2] w' (SentPost S (R.insM i 3) w')) := Lib.hid fun w' hb => by
    have := F.out w' hb ((i : Int) + 2) (i + 2 * N + 2) 3 2 (by omega) (by omega) (by omega) (by omega) (by omega)
    rw [hNN] at this
    exact this
  have hB0 : Hid (Below w.heap.size w (w.alloc (.cells #[Value.slice none 0 0, .slice none 0 0, .slice none 0 0, .slice none 0 0] 36))) := Lib.hid ((Below.refl _ _).alloc (Nat.le_refl _) _)
  have HK : Hid (Blk (w.alloc (.cells #[Value.slice none 0 0, .slice none 0 0, .slice none 0 0, .slice none 0 0] 36)) w.heap.size 36 #[Value.slice none 0 0, .slice none 0 0, .slice none 0 0, .slice none 0 0]) := Lib.hid (Blk.new _ _ _)
  clear F hNN hN hsv hS
  go_enter Try.func61, Try.ntmps61
  go_wp2_with fail
  generalize (w.alloc (.cells #[Value.slice none 0 0, .slice none 0 0, .slice none 0 0, .slice none 0 0] 36)) = w0 at hB0 HK ⊢
  (with_reducible refine (F0.out w0 hB0.out).mono ?_)
  rintro e w1 ⟨u0, rfl, hu0, hb1⟩
  have B1 := Lib.hid (hB0.out.trans (hb1.mono hB0.out.size))
  have U0 := Lib.hid hu0
  clear hu0
  have K1 := Lib.hid (HK.out.below hb1 HK.out.lt)
  clear hb1 HK
  go_wp2_with fail
  (with_reducible refine (F1.out w1 B1.out).mono ?_)
  rintro e w2 ⟨u1, rfl, hu1, hb2⟩
  have B2 := Lib.hid (B1.out.trans (hb2.mono B1.out.size))
  have U1 := Lib.hid (And.intro (U0.out.below hb2) hu1)
  have K2 := Lib.hid (K1.out.below hb2 K1.out.lt)
  clear hu1 hb2 U0 K1
  go_wp2_with fail
  (with_reducible refine (F2.out w2 B2.out).mono ?_)
  rintro e w3 ⟨u2, rfl, hu2, hb3⟩
  have B3 := Lib.hid (B2.out.trans (hb3.mono B2.out.size))
  have U2 := Lib.hid (And.intro (U1.out.1.below hb3) (And.intro (U1.out.2.below hb3) hu2))
  have K3 := Lib.hid (K2.out.below hb3 K2.out.lt)
  clear hu2 hb3 U1 K2
  go_wp2_with fail
  (with_reducible refine (F3.out w3 B3.out).mono ?_)
  rintro e w4 ⟨u3, rfl, hu3, hb4⟩
  have B4 := Lib.hid (B3.out.trans (hb4.mono B3.out.size))
  have U3 := Lib.hid (And.intro (U2.out.1.below hb4) (And.intro (U2.out.2.1.below hb4) (And.intro (U2.out.2.2.below hb4) hu3)))
  have K4 := Lib.hid (K3.out.below hb4 K3.out.lt)
  clear hu3 hb4 U2 K3
  have hc0 := U3.out.1.cell
  have hc1 := U3.out.2.1.cell
  have hc2 := U3.out.2.2.1.cell
  have hc3 := U3.out.2.2.2.cell
  have hp := (K4.out.whole (n := 4) rfl).2.2
  go_wp2_with fail
  obtain ⟨e1, e2, -⟩ := (K4.out.put_all (l := [u0, u1, u2, u3]) rfl).whole (n := 4) rfl
  have hk : ∀ b, S b → b < w4.heap.size → (putRow w4 ⟨w.heap.size, 0, none⟩ [u0, u1, u2, u3]).heap[b]? = w4.heap[b]? := fun b hb _ => putRow_other _ _ _ _ (fun h => Nat.lt_irrefl _ (h ▸ hSl b hb))
  have hs : w4.heap.size ≤ (putRow w4 ⟨w.heap.size, 0, none⟩ [u0, u1, u2, u3]).heap.size := by rw [size_putRow]; exact Nat.le_refl _
  obtain ⟨v0, v1, v2, v3⟩ := U3.out
  obtain ⟨a, ln, cp, r0, r1, r2, r3, hI⟩ := four_words (v0.keep hs hk) (v1.keep hs hk) (v2.keep hs hk) (v3.keep hs hk)
  refine bodyPost_ret (ret_row (n := 4) rfl ag_ins4 _ _ _ rfl e1) rfl ?_
  rw [e2]
  exact ⟨a, ln, cp, by rw [← r0, ← r1, ← r2, ← r3], hI, Below.put B4.out (p := ⟨w.heap.size, 0, none⟩) (Nat.le_refl _) _⟩
end Go.Proofs.Ytbdklfcgcmdgaaa
namespace Go.Proofs.Ytbdklfcgcmdgaaa
open Go.RowKit
set_option linter.unusedVariables false
set_option linter.unusedSimpArgs false

def BadPost (b : Bool) (w : World) (e : Ending) (w' : World) : Prop := e = .returned (.bool b) ∧ Below w.heap.size w w'
set_option maxRecDepth 100000 in
set_option maxHeartbeats 2000000 in
theorem bad_any (rg N at_ : Nat) (link : Bool) (i : Nat) (w : World) (hN : w.cell? ⟨rg, 0, none⟩ = some (.int .i64 N)) (hl : w.cell? ⟨rg, 1, none⟩ = some (.bool link)) (ha : w.cell? ⟨rg, 2, none⟩ = some (.int .u8 at_))
    (h4 : 4 ≤ N) (h16 : N ≤ 16) (hat : at_ < 256) (hi : i < N) :
    Calls Try.prog 34 #[.pointer (some ⟨rg, 0, none⟩), .int .i64 i] w (BadPost (!link && decide (at_ % N = i)) w) := by
  obtain ⟨m, hm⟩ : ∃ m, at_ % N = m := ⟨_, rfl⟩
  have t1 : (at_ : Int).tmod N = m := by rw [← Int.ofNat_tmod, hm]
  have t2 : (at_ : Int) % N = m := by rw [← Int.natCast_emod, hm]
  have hmN : m < N := by rw [← hm]; exact Nat.mod_lt _ (by omega)
  have wa : IntKind.i64.wrap (at_ : Int) = at_ := IntWalk.i64_in _ (by omega)
  have wm : IntKind.i64.wrap (m : Int) = m := IntWalk.i64_in _ (by omega)
  have n1 : ¬ (N : Int) = 0 := by omega
  have n2 : ¬ N = 0 := by omega
  cases link with
  | true =>
    go_enter Try.func34, Try.ntmps34
    go_wp2_with fail
    go_quiet (fail)
    go_wp2_with fail
    try simp only [Exit.inBlock, Exit.then]
    go_ret
    exact ⟨rfl, Below.drewN_ (Below.refl _ _) _⟩
  | false =>
    by_cases hmi : m = i
    · subst hmi
      go_enter Try.func34, Try.ntmps34
      go_wp2_with fail
      go_quiet (fail)
      go_wp2_with fail
      try simp only [Exit.inBlock, Exit.then]
      go_ret
      exact ⟨by simp [hm], Below.drewN_ (Below.refl _ _) _⟩
    · have hmi' : ¬ (m : Int) = i := by omega
      go_enter Try.func34, Try.ntmps34
      go_wp2_with fail
      go_quiet (fail)
      go_wp2_with fail
      try simp only [Exit.inBlock, Exit.then]
      go_ret
      exact ⟨by simp [hm, hmi]; omega, Below.drewN_ (Below.refl _ _) _⟩
end Go.Proofs.Ytbdklfcgcmdgaaa
namespace Go.Proofs.Ytbdklfcgcmdgaaa
open Go.RowKit
set_option linter.unusedVariables false
set_option linter.unusedSimpArgs false

set_option maxRecDepth 100000 in
set_option maxHeartbeats 2000000 in
theorem fits_any (rg N g cap m c : Nat) (a : Option Addr) (i : Nat) (w : World) (hN : w.cell? ⟨rg, 0, none⟩ = some (.int .i64 N)) (hx : w.cell? ⟨g, i, none⟩ = some (.slice a m c))
    (hi : i < N) (hmc : m ≤ c) :
    Calls Try.prog 35 #[.pointer (some ⟨rg, 0, none⟩), .slice (some ⟨g, 0, none⟩) N cap, .int .i64 i] w (BadPost (decide (m = N)) w) := by
  have i1 : (i : Int) < N := by omega
  have i2 : (0 : Int) ≤ i := by omega
  by_cases hmi : m = N
  · have hmi' : (m : Int) = N := by omega
    subst hmi
    go_enter Try.func35, Try.ntmps35
    go_wp2_with fail
    go_quiet (fail)
    go_wp2_with fail
    go_ret
    exact ⟨by simp, Below.drewN_ (Below.refl _ _) _⟩
  · have hmi' : ¬ (m : Int) = N := by omega
    go_enter Try.func35, Try.ntmps35
    go_wp2_with fail
    go_quiet (fail)
    go_wp2_with fail
    go_ret
    exact ⟨by simp [hmi]; omega, Below.drewN_ (Below.refl _ _) _⟩
end Go.Proofs.Ytbdklfcgcmdgaaa
namespace Go.Proofs.Ytbdklfcgcmdgaaa
open Go.RowKit
set_option linter.unusedVariables false
set_option linter.unusedSimpArgs false

def AtPost (S : Nat → Prop) (r : Rw) (w : World) (e : Ending) (w' : World) : Prop := ∃ tv, e = .returned (.agg (r.vals tv).toArray) ∧ RowR S w' r tv ∧ Below w.heap.size w w'
set_option maxRecDepth 100000 in
set_option maxHeartbeats 2000000 in
theorem at_any (S : Nat → Prop) (g n cap t s m c : Nat) (a : Option Addr) (l : List Rw) (r : Rw) (w : World) (hg : g < w.heap.size) (hx : w.cell? ⟨g, t, none⟩ = some (.slice a m c)) (ht : t < n) (hmc : m ≤ c)
    (hrd : RdRs S w a m l) (hr : l[s]? = some r) :
    Calls Try.prog 37 #[.slice (some ⟨g, 0, none⟩) n cap, .int .i64 t, .int .i64 s] w (AtPost S r w) := by
  obtain ⟨b, off, x, mm, cc, rfl, hS, hbw, hv, hw, hH, h1, h2⟩ := hrd.2.2 s r hr
  have hsm : s < m := by
    have := (List.getElem?_eq_some_iff.mp hr).1
    rw [hrd.1] at this
    exact this
  have hro : r.ok := hrd.2.1 r (List.mem_of_getElem? hr)
  obtain ⟨rv, hrv⟩ : ∃ rv, rv = r.vals (.slice x mm cc) := ⟨_, rfl⟩
  rw [← hrv] at hw
  have hvl : rv.length = 57 := by rw [hrv]; exact Rw.len hro _
  have hvc : rv.all cell1 = true := by rw [hrv]; exact RowR.cell1 (S := S) (w := w) ⟨x, mm, cc, rfl, hH, h1, h2⟩ hro
  have t1 : (t : Int) < n := by omega
  have t2 : (0 : Int) ≤ t := by omega
  have t3 : ¬ (t : Int) < 0 := by omega
  have s1 : (s : Int) < m := by omega
  have s2 : (0 : Int) ≤ s := by omega
  have HR := Lib.hid hrv
  have HB := Lib.hid ((Below.refl w.heap.size w).alloc (Nat.le_refl _) (.cells rowZ.toArray 54))
  have K := Lib.hid (Blk.new w 54 rowZ.toArray)
  have HH : Hid (RowR S w r (.slice x mm cc)) := Lib.hid ⟨x, mm, cc, rfl, hH, h1, h2⟩
  clear hrd hrv hH h1 h2
  go_enter Try.func37, Try.ntmps37
  go_wp2_with fail
  obtain ⟨e1, e2, -⟩ := (Blk.new w 54 rv.toArray).whole (n := 57) hvl
  have HB2 := (Below.refl w.heap.size w).alloc (Nat.le_refl _) (.cells rv.toArray 54)
  refine bodyPost_ret (ret_row (n := 57) rfl (by kernel_rfl) _ _ _ rfl e1) rfl ?_
  rw [e2, HR.out]
  obtain ⟨x', m', c', q1, q2, q3⟩ := HH.out
  rw [← HR.out]
  exact ⟨.slice x mm cc, by rw [HR.out], ⟨x', m', c', q1, q2.keep HB2.size (fun b hb hl => HB2.block b hl), q3⟩, HB2⟩
set_option maxRecDepth 100000 in
set_option maxHeartbeats 2000000 in
theorem at_neg (S : Nat → Prop) (v : Value) (t : Int) (s : Nat) (w : World) (ht : t < 0) :
    Calls Try.prog 37 #[v, .int .i64 t, .int .i64 s] w (AtPost S rw0 w) := by
  go_enter Try.func37, Try.ntmps37
  go_wp2_with fail
  obtain ⟨e1, e2, -⟩ := (Blk.new w 54 rowZ.toArray).whole (n := 57) len_rowZ
  have HB2 := (Below.refl w.heap.size w).alloc (Nat.le_refl _) (.cells rowZ.toArray 54)
  refine bodyPost_ret (ret_row (n := 57) rfl (by kernel_rfl) _ _ _ rfl e1) rfl ?_
  rw [e2]
  exact ⟨.slice none 0 0, rfl, ⟨none, 0, 0, rfl, ⟨rfl, fun _ h => by simp [rw0] at h, fun k h hk => by simp [rw0] at hk⟩, Nat.le_refl _, by simp⟩, HB2⟩
end Go.Proofs.Ytbdklfcgcmdgaaa
