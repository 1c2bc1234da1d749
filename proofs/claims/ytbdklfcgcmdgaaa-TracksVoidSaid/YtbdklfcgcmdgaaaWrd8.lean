
/-
  words.Norm.
-/
import Derived.Test.YtbdklfcgcmdgaaaWrd7
import Derived.Test.YtbdklfcgcmdgaaaWrd6
namespace Go.Proofs.Ytbdklfcgcmdgaaa
open Go.RowKit
set_option linter.unusedVariables false
set_option linter.unusedSimpArgs false

theorem row1 {w : World} {p : Addr} {v : Value} (h : w.cell? p = some v) : hasRow w p 1 = true ∧ rowOf w p 1 = [v] := by
  have h0 : p.add 0 = p := by obtain ⟨b, o, sp⟩ := p; unfold Addr.add; split <;> simp_all
  simp [hasRow, rowOf, h0, h]

/-- a word, in new memory -/
def WordPost (l : List Rw) (w : World) (e : Ending) (w' : World) : Prop :=
  ∃ a cap, e = .returned (.agg #[.slice a l.length cap]) ∧ RdRs (w.heap.size ≤ ·) w' a l.length l ∧ l.length ≤ cap ∧ cap ≤ maxLen ∧ Below w.heap.size w w'
/-- the tables' room may be written -/
def NormRoom (S : Nat → Prop) (w : World) (a : Option Addr) (len : Nat) : Prop :=
  ∀ k, k < len → ∃ b off cur tv, a = some ⟨b, off, none⟩ ∧ S b ∧ w.heap[b]? = some (.cells cur 54 (0, 0)) ∧ w.cell? ⟨b, off + k * 57 + 56, none⟩ = some tv ∧ RoomV S w tv
def NormPost (l : List Rw) (w : World) (e : Ending) (w' : World) : Prop :=
  ∃ a cap, e = .returned (.agg #[.slice a l.length cap]) ∧ RdRs (w.heap.size ≤ ·) w' a l.length l ∧ l.length ≤ cap ∧ cap ≤ maxLen ∧ Below w.heap.size w w' ∧ NormRoom (w.heap.size ≤ ·) w' a l.length
theorem normPost_nil {w w' : World} (h : Below w.heap.size w w') : NormPost [] w (.returned (.agg #[.slice none 0 0])) w' := ⟨none, 0, rfl, ⟨rfl, by simp, by simp⟩, Nat.le_refl _, by simp, h, fun k hk => by simp at hk⟩
theorem wordPost_nil {w w' : World} (h : Below w.heap.size w w') : WordPost [] w (.returned (.agg #[.slice none 0 0])) w' := ⟨none, 0, rfl, ⟨rfl, by simp, by simp⟩, Nat.le_refl _, by simp, h⟩
theorem rdRs_nil (S : Nat → Prop) (w : World) : RdRs S w none 0 [] := ⟨rfl, by simp, by simp⟩

set_option maxRecDepth 100000 in
set_option maxHeartbeats 1000000 in
theorem norm_any (S : Nat → Prop) (n : Int) (a : Option Addr) (len cap : Nat) (l : List Rw) (w : World) (hrd : RdRs S w a len l) (hm1 : len ≤ cap) (hm2 : cap ≤ maxLen) :
    Calls Try.prog 78 #[.int .i64 n, .agg #[.slice a len cap]] w (NormPost (normW n l) w) := by
  have hmf : ∀ (fn : Fn) (first cap : Array Value) (w : World), (Instr.makeFunc fn first cap).run Try.prog w = .ok (.func fn first cap) w := fun _ _ _ _ => rfl
  have HR := Lib.hid hrd
  clear hrd
  cases hm : mayN n with
  | false =>
    have e : normW n l = [] := by unfold normW; rw [hm]; rfl
    rw [e]
    go_enter Try.func78, Try.ntmps78
    go_wp2_with fail
    refine (may_any n _).mono ?_
    rintro e w' ⟨rfl, rfl⟩
    rw [hm]
    go_wp2_with fail
    have hc : (((w.alloc (.cells #[.int .i64 n] 3)).alloc (.cells #[.slice a len cap] 34)).alloc (.cells #[.slice none 0 0] 34)).cell? ⟨w.heap.size + 1 + 1, 0, none⟩ = some (.slice none 0 0) := (new2 w _ _ [.slice none 0 0] _).cell 0
    try simp only [Exit.inBlock, Exit.then]
    first | refine bodyPost_ret (ret_row (n := 1) rfl (by kernel_rfl) _ _ _ rfl ?_) rfl ?_ | refine bodyPost_end (ret_row (n := 1) rfl (by kernel_rfl) _ _ _ rfl ?_) rfl ?_
    · exact (row1 hc).1
    · rw [(row1 hc).2]
      exact normPost_nil ((((Below.refl _ _).alloc (Nat.le_refl _) _).alloc (by simp) _).alloc (by simp; omega) _)
  | true =>
    have hn : 0 ≤ n ∧ n ≤ 16 := by simpa [mayN] using hm
    obtain ⟨N, rfl⟩ : ∃ N : Nat, n = N := ⟨n.toNat, by omega⟩
    have e : normW N l = fillR N l := by unfold normW; rw [hm]; rfl
    rw [e]
    go_enter Try.func78, Try.ntmps78
    go_wp2_with fail
    refine (may_any N _).mono ?_
    rintro e w' ⟨rfl, rfl⟩
    rw [hm]
    go_wp2_with fail
    have hB : Below w.heap.size w (((w.alloc (.cells #[.int .i64 N] 3)).alloc (.cells #[.slice a len cap] 34)).alloc (.cells #[.slice none 0 0] 34)) := (((Below.refl _ _).alloc (Nat.le_refl _) _).alloc (by simp) _).alloc (by simp; omega) _
    have h0 : (((w.alloc (.cells #[.int .i64 N] 3)).alloc (.cells #[.slice a len cap] 34)).alloc (.cells #[.slice none 0 0] 34)).cell? ⟨w.heap.size, 0, none⟩ = some (.int .i64 N) :=
      (((Blk.new w 3 #[Value.int .i64 N]).alloc _).alloc _).cell 0
    have h2 : Blk (((w.alloc (.cells #[.int .i64 N] 3)).alloc (.cells #[.slice a len cap] 34)).alloc (.cells #[.slice none 0 0] 34)) (w.heap.size + 1 + 1) 34 #[.slice none 0 0] := new2 w _ _ [.slice none 0 0] _
    have hsz : (((w.alloc (.cells #[.int .i64 N] 3)).alloc (.cells #[.slice a len cap] 34)).alloc (.cells #[.slice none 0 0] 34)).heap.size = w.heap.size + 1 + 1 + 1 := by simp
    generalize (((w.alloc (.cells #[.int .i64 N] 3)).alloc (.cells #[.slice a len cap] 34)).alloc (.cells #[.slice none 0 0] 34)) = w0 at hB h0 h2 hsz ⊢
    refine (fillr_any S N (by omega) w.heap.size a len cap l w0 h0 (by omega) (HR.out.below hB (fun _ _ h => h)) hm1 hm2).mono ?_
    rintro e w1 ⟨rfl, hrows, hb1⟩
    have k2 := h2.below hb1 h2.lt
    have c2 := k2.cell 0
    have z2 := k2.frozen 0
    simp at c2
    have hfin : NormPost (fillR N l) w (.returned (.agg #[.slice (some ⟨w0.heap.size, 0, none⟩) N N])) (w1.setCell ⟨w.heap.size + 1 + 1, 0, none⟩ (.slice (some ⟨w0.heap.size, 0, none⟩) N N)) := by
      have hrd := (hrows.rd (fillR_ok HR.out.2.1)).mono (S' := (w.heap.size + 1 + 1 < ·)) (fun b _ h => by omega)
      rw [fillR_len] at hrd
      refine ⟨_, N, by rw [fillR_len], ?_, by rw [fillR_len]; exact Nat.le_refl _, by simp only [maxLen]; omega, (hB.trans (hb1.mono (by omega))).setCell (by simp; omega) _, fun k hk => ?_⟩
      rotate_left
      · rw [fillR_len] at hk
        obtain ⟨cur, tv, m1, m2, m3⟩ := hrows.room (fillR_ok HR.out.2.1) (List.getElem?_eq_getElem (by rw [fillR_len]; exact hk))
        have hc := (Chg.refl (· = w.heap.size + 1 + 1) w1).set_at 0 (.slice (some ⟨w0.heap.size, 0, none⟩) N N)
        refine ⟨w0.heap.size, 0, cur, tv, rfl, by omega, (hc.block _ hrows.lt (by omega)).trans m1, ?_, (m3.keep (fun b hb hlt => hc.block b hlt (by omega))).mono (fun b _ h => by omega)⟩
        rw [Nat.zero_add]
        exact (hc.cell (p := ⟨w0.heap.size, k * 57 + 56, none⟩) hrows.lt (by simp; omega)).trans m2
      rw [fillR_len]
      exact (hrd.chg ((Chg.refl (· = w.heap.size + 1 + 1) w1).set_at 0 _) (fun b _ h h' => by omega)).mono (fun b _ h => by omega)
    have hc : (w1.setCell ⟨w.heap.size + 1 + 1, 0, none⟩ (.slice (some ⟨w0.heap.size, 0, none⟩) N N)).cell? ⟨w.heap.size + 1 + 1, 0, none⟩ = some (.slice (some ⟨w0.heap.size, 0, none⟩) N N) := (k2.set_ 0 _).cell 0
    have HF := Lib.hid (And.intro hc hfin)
    clear hrows hb1 hfin k2 hB h0 h2 hc hsz
    go_wp2_with fail
    try simp only [Exit.inBlock, Exit.then]
    first | refine bodyPost_ret (ret_row (n := 1) rfl (by kernel_rfl) _ _ _ rfl ?_) rfl ?_ | refine bodyPost_end (ret_row (n := 1) rfl (by kernel_rfl) _ _ _ rfl ?_) rfl ?_
    · exact (row1 HF.out.1).1
    · rw [(row1 HF.out.1).2]; exact HF.out.2
end Go.Proofs.Ytbdklfcgcmdgaaa
