/-
  (*sennitlaw14.Ring).fits. sennitlaw14.at, at a moment that is not below zero. sennitlaw14.Light.
-/
import Derived.Test.YtbdklfcgcmdgaaaGa34
import Derived.Test.YtbdklfcgcmdgaaaGa25
namespace Go.Proofs.Ytbdklfcgcmdgaaa
open Go.RowKit
set_option linter.unusedVariables false
set_option linter.unusedSimpArgs false

set_option maxRecDepth 100000 in
set_option maxHeartbeats 2000000 in
theorem fits_any (rg N g cap m c : Nat) (a : Option Addr) (i : Nat) (w : World) (hN : w.cell? ⟨rg, 0, none⟩ = some (.int .i64 N)) (hx : w.cell? ⟨g, i, none⟩ = some (.slice a m c))
    (hi : i < N) (hmc : m ≤ c) :
    Calls Try.prog 35 #[.pointer (some ⟨rg, 0, none⟩), .slice (some ⟨g, 0, none⟩) N cap, .int .i64 i] w (BadPost (decide (m = N)) w) := by
  have i1 : (i : Int) < N := by omega
  have i2 : (0 : Int) ≤ i := by omega
  by_cases hmi : m = N
  · have hmi' : (m : Int) = N := by omega
    subst hmi
    go_enter Try.func35, Try.ntmps35
    go_wp2_with fail
    go_quiet (fail)
    go_wp2_with fail
    go_ret
    exact ⟨by simp, Below.drewN_ (Below.refl _ _) _⟩
  · have hmi' : ¬ (m : Int) = N := by omega
    go_enter Try.func35, Try.ntmps35
    go_wp2_with fail
    go_quiet (fail)
    go_wp2_with fail
    go_ret
    exact ⟨by simp [hmi]; omega, Below.drewN_ (Below.refl _ _) _⟩
end Go.Proofs.Ytbdklfcgcmdgaaa
namespace Go.Proofs.Ytbdklfcgcmdgaaa
open Go.RowKit
set_option linter.unusedVariables false
set_option linter.unusedSimpArgs false

def AtPost (S : Nat → Prop) (r : Rw) (w : World) (e : Ending) (w' : World) : Prop := ∃ tv, e = .returned (.agg (r.vals tv).toArray) ∧ RowR S w' r tv ∧ Below w.heap.size w w'
set_option maxRecDepth 100000 in
set_option maxHeartbeats 2000000 in
theorem at_any (S : Nat → Prop) (g n cap t s m c : Nat) (a : Option Addr) (l : List Rw) (r : Rw) (w : World) (hg : g < w.heap.size) (hx : w.cell? ⟨g, t, none⟩ = some (.slice a m c)) (ht : t < n) (hmc : m ≤ c)
    (hrd : RdRs S w a m l) (hr : l[s]? = some r) :
    Calls Try.prog 37 #[.slice (some ⟨g, 0, none⟩) n cap, .int .i64 t, .int .i64 s] w (AtPost S r w) := by
  obtain ⟨b, off, x, mm, cc, rfl, hS, hbw, hv, hw, hH, h1, h2⟩ := hrd.2.2 s r hr
  have hsm : s < m := by
    have := (List.getElem?_eq_some_iff.mp hr).1
    rw [hrd.1] at this
    exact this
  have hro : r.ok := hrd.2.1 r (List.mem_of_getElem? hr)
  obtain ⟨rv, hrv⟩ : ∃ rv, rv = r.vals (.slice x mm cc) := ⟨_, rfl⟩
  rw [← hrv] at hw
  have hvl : rv.length = 57 := by rw [hrv]; exact Rw.len hro _
  have hvc : rv.all cell1 = true := by rw [hrv]; exact RowR.cell1 (S := S) (w := w) ⟨x, mm, cc, rfl, hH, h1, h2⟩ hro
  have t1 : (t : Int) < n := by omega
  have t2 : (0 : Int) ≤ t := by omega
  have t3 : ¬ (t : Int) < 0 := by omega
  have s1 : (s : Int) < m := by omega
  have s2 : (0 : Int) ≤ s := by omega
  have HR := Lib.hid hrv
  have HB := Lib.hid ((Below.refl w.heap.size w).alloc (Nat.le_refl _) (.cells rowZ.toArray 54))
  have K := Lib.hid (Blk.new w 54 rowZ.toArray)
  have HH : Hid (RowR S w r (.slice x mm cc)) := Lib.hid ⟨x, mm, cc, rfl, hH, h1, h2⟩
  clear hrd hrv hH h1 h2
  go_enter Try.func37, Try.ntmps37
  go_wp2_with fail
  obtain ⟨e1, e2, -⟩ := (Blk.new w 54 rv.toArray).whole (n := 57) hvl
  have HB2 := (Below.refl w.heap.size w).alloc (Nat.le_refl _) (.cells rv.toArray 54)
  refine bodyPost_ret (ret_row (n := 57) rfl (by kernel_rfl) _ _ _ rfl e1) rfl ?_
  rw [e2, HR.out]
  obtain ⟨x', m', c', q1, q2, q3⟩ := HH.out
  rw [← HR.out]
  exact ⟨.slice x mm cc, by rw [HR.out], ⟨x', m', c', q1, q2.keep HB2.size (fun b hb hl => HB2.block b hl), q3⟩, HB2⟩
set_option maxRecDepth 100000 in
set_option maxHeartbeats 2000000 in
theorem at_neg (S : Nat → Prop) (v : Value) (t : Int) (s : Nat) (w : World) (ht : t < 0) :
    Calls Try.prog 37 #[v, .int .i64 t, .int .i64 s] w (AtPost S rw0 w) := by
  go_enter Try.func37, Try.ntmps37
  go_wp2_with fail
  obtain ⟨e1, e2, -⟩ := (Blk.new w 54 rowZ.toArray).whole (n := 57) len_rowZ
  have HB2 := (Below.refl w.heap.size w).alloc (Nat.le_refl _) (.cells rowZ.toArray 54)
  refine bodyPost_ret (ret_row (n := 57) rfl (by kernel_rfl) _ _ _ rfl e1) rfl ?_
  rw [e2]
  exact ⟨.slice none 0 0, rfl, ⟨none, 0, 0, rfl, ⟨rfl, fun _ h => by simp [rw0] at h, fun k h hk => by simp [rw0] at hk⟩, Nat.le_refl _, by simp⟩, HB2⟩
end Go.Proofs.Ytbdklfcgcmdgaaa
namespace Go.Proofs.Ytbdklfcgcmdgaaa
open Go.RowKit
set_option linter.unusedVariables false
set_option linter.unusedSimpArgs false

def LightPost (len : Nat) (l : List Rw) (w : World) (e : Ending) (w' : World) : Prop := (∃ b, e = .returned (.bool b) ∧ (b = true → len ≤ 200 ∧ smallW l)) ∧ Below w.heap.size w w'
set_option maxRecDepth 100000 in
set_option maxHeartbeats 2000000 in
theorem light_any (S : Nat → Prop) (a : Option Addr) (len cap : Nat) (l : List Rw) (w : World) (hrd : RdRs S w a len l) (hm1 : len ≤ cap) (hm2 : cap ≤ maxLen) (hsz : szW l) :
    Calls Try.prog 29 #[.slice a len cap] w (LightPost len l w) := by
  by_cases hl : len ≤ 200
  · have hl' : (len : Int) ≤ 200 := by omega
    have F : Hid (∀ w', Below w.heap.size w w' → Calls Try.prog 47 #[.agg #[.slice a len cap]] w' (GreatPost l w')) := Lib.hid fun w' hb => great_any S a len cap l w' (hrd.keep hb.size (fun b _ h => hb.block b h)) hm1 hm2 hsz
    have HB := Lib.hid (Below.refl w.heap.size w)
    clear hrd hsz
    go_enter Try.func29, Try.ntmps29
    go_wp2_with fail
    (with_reducible refine (F.out w HB.out).mono ?_)
    rintro e w1 ⟨⟨b, rfl, hb⟩, hB⟩
    cases b with
    | true =>
      go_wp2_with fail
      go_ret
      exact ⟨⟨false, rfl, fun h => by cases h⟩, hB⟩
    | false =>
      go_wp2_with fail
      go_ret
      exact ⟨⟨true, rfl, fun _ => ⟨hl, by simpa using hb⟩⟩, hB⟩
  · have hl' : ¬ (len : Int) ≤ 200 := by omega
    have HB := Lib.hid (Below.refl w.heap.size w)
    clear hrd hsz
    go_enter Try.func29, Try.ntmps29
    go_wp2_with fail
    go_ret
    exact ⟨⟨false, rfl, fun h => by cases h⟩, HB.out⟩
end Go.Proofs.Ytbdklfcgcmdgaaa
