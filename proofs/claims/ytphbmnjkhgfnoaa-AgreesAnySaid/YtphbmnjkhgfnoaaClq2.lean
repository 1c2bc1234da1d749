/-
  A vector as the document has it; a vector of ages.
-/
import Derived.Test.YtphbmnjkhgfnoaaClq
import Derived.Test.YtphbmnjkhgfnoaaBld
import Derived.Deep.RegionHeld3
namespace Go.Proofs.Ytphbmnjkhgfnoaa
open Go.RowKit
set_option linter.unusedVariables false
set_option linter.unusedSimpArgs false

theorem app_held : AppOk Try.prog 28 60 56 := appOk_of Try.underlying28 (by kernel_rfl)
theorem app_rheld : AppOk Try.prog 31 127 56 := appOk_of Try.underlying31 (by kernel_rfl)

def OwnHs (w0 : World) (e : TypeId) (v : Value) (l : List Hd) (wr : World) : Prop := wr.ownsRow w0.heap.size e 56 v l.length (l.flatMap Hd.vals) ∧ (∀ x ∈ l, x.ok) ∧ Below w0.heap.size w0 wr
theorem OwnHs.nil (w0 : World) (e : TypeId) (wr : World) (h : Below w0.heap.size w0 wr) : OwnHs w0 e (.slice none 0 0) [] wr := ⟨World.ownsRow_nil _ _ _ _, by simp, h⟩
/-- a slice is handed back: it reads as l, in new memory -/
def NewHs (w : World) (l : List Hd) (e : Ending) (w' : World) : Prop :=
  ∃ a cap, e = .returned (.slice a l.length cap) ∧ RdHs (w.heap.size ≤ ·) w' a l.length l ∧ l.length ≤ cap ∧ cap ≤ maxLen ∧ Below w.heap.size w w'
theorem OwnHs.new {w0 : World} {e : TypeId} {v : Value} {l : List Hd} {wr : World} (h : OwnHs w0 e v l wr) : NewHs w0 l (.returned v) wr := by
  obtain ⟨a, cap, rfl, h1, h2, h3⟩ := RdHs.of_own h.1 h.2.1
  exact ⟨a, cap, rfl, h1, h2, h3, h.2.2⟩
theorem OwnHs.push {w0 : World} {e : TypeId} {v : Value} {l : List Hd} {wr : World} (h : OwnHs w0 e v l wr) (x : Hd) (hx : x.ok) {w1 : World} {v' : Value} {n : Nat} (hn : l.length = n)
    (o1 : w1.ownsRow w0.heap.size e 56 v' (n + 1) (l.flatMap Hd.vals ++ x.vals)) {wm : World} (hm : Below w0.heap.size w0 wm) (hg : wm.grownBy w1 v.ownBlock) : OwnHs w0 e v' (l ++ [x]) w1 := by
  subst hn
  refine ⟨by rw [List.length_append, List.flatMap_append]; simpa using o1, fun y hy => ?_, hm.grown hg hm.size fun k hk => (h.1.lt k hk).1⟩
  rcases List.mem_append.1 hy with hy | hy
  · exact h.2.1 y hy
  · simp at hy; rw [hy]; exact hx

set_option maxRecDepth 100000 in
set_option maxHeartbeats 400000 in
theorem others_any (S : Nat → Prop) (a : Option Addr) (len cap : Nat) (l : List Hd) (w : World) (hrd : RdHs S w a len l) (hn : len ≤ 100000000) :
    Calls Try.prog 29 #[.slice a len cap] w (NewHs w l) := by
  have HR := Lib.hid hrd
  clear hrd
  have HO := Lib.hid (OwnHs.nil w 127 w (Below.refl _ _))
  go_enter Try.func29, Try.ntmps29
  go_wp2
  go_loopw [3, 4] (fun v i wr => ∃ k : Nat, k ≤ len ∧ i = .int .i64 k ∧ OwnHs w 127 v (l.take k) wr) (fun _ i _ => len - (intOf i).toNat)
  case atStart => exact ⟨0, by omega, rfl, HO.out⟩
  case round =>
    obtain ⟨k, hk, rfl, ho⟩ := hrel
    by_cases hlt : k < len
    · obtain ⟨b, off, is, n, r, rfl, -, hbw, hlk, hok, hlr, hlc1, h1, h2, h3, h4, h5, h6, h7, h8⟩ := HR.out.at_ k hlt
      have hbl := ho.2.2
      have r1 := row_below hbl (p := ⟨b, off + k * 56 + 1, none⟩) hbw 55
      have g1 : hasRow wr ⟨b, off + k * 56 + 1, none⟩ 55 = true := r1.1.trans h3
      have g2 : rowOf wr ⟨b, off + k * 56 + 1, none⟩ 55 = .int .i64 n :: r := r1.2.trans h4
      have g3 : wr.cell? ⟨b, off + k * 56, none⟩ = some (.bool is) := (hbl.cell (p := ⟨b, off + k * 56, none⟩) hbw).trans h5
      have hne := own_ne ho.1 hbw
      have hbr : b < wr.heap.size := Nat.lt_of_lt_of_le hbw hbl.size
      have HO := Lib.hid ho
      have HK := Lib.hid (And.intro hlk hok)
      have hbase := hbl.size
      have hl1 : (l.take k).length = k := by rw [List.length_take, HR.out.1]; omega
      clear h1 h2 h3 h4 h5 h6 r1 ho hlk hbl hok
      go_wp2
      go_region_held3 (fun w' => hasRow w' ⟨b, off + k * 56 + 1, none⟩ 55 = true ∧ rowOf w' ⟨b, off + k * 56 + 1, none⟩ 55 = .int .i64 n :: r ∧ w'.cell? ⟨b, off + k * 56, none⟩ = some (.bool is) ∧ b < w'.heap.size)
        (first
          | (simp [*, hasRow_drew, rowOf_drew, hasRow_alloc, rowOf_alloc, World.cell?_alloc_some]; done)
          | (simp [*, hasRow_drew, rowOf_drew, hasRow_alloc, rowOf_alloc, World.cell?_alloc_some]; omega)
          | exact ⟨(row_grown hgrow (by simp; omega) hne 55).1.trans ((hasRow_alloc wr _ _ 55 hbr).trans g1), (row_grown hgrow (by simp; omega) hne 55).2.trans ((rowOf_alloc wr _ _ 55 hbr).trans g2), (World.cell?_of_block (hgrow.block _ (by simp; omega) hne)).trans ((World.cell?_alloc_lt wr _ _ hbr).trans g3), Nat.lt_of_lt_of_le (by simp; omega) hgrow.size⟩)
        ((refine step_app app_rheld (by rfl) (.tmp 11) (.tmp 23) (by rfl) w.heap.size _ _ _ (by rfl) ((HO.out.1.alloc _).drew) ⟨wr.heap.size, 0, none⟩ 1 1 (.bool is :: .int .i64 n :: r) (by rfl) (by simp [hlr])
            (hasRow_new wr _ _ 0 56 (by simp [hlr])) ((rowOf_new wr _ _ 0 56 (by simp [hlr])).trans (List.take_of_length_le (by simp [hlr]))) (by simp [hlc1, cell1]) (by omega) (by omega) (by simp; omega) ?_; intro gg cap' w1 hown1 hgrow))
      go_wp2
      refine ⟨⟨k + 1, by omega, by go_num, ?_⟩, by simp [intOf]; omega⟩
      rw [List.take_add_one, HK.out.1]
      rw [hl1] at hown1
      exact HO.out.push ⟨is, .int .i64 n :: r⟩ HK.out.2 hl1 hown1 (HO.out.2.2.alloc hbase _).drew hgrow
    · have : k = len := by omega
      subst this
      rw [List.take_of_length_le (by rw [HR.out.1]; exact Nat.le_refl _)] at ho
      have HO := Lib.hid ho
      clear ho
      go_wp2
      go_ret
      exact HO.out.new
end Go.Proofs.Ytphbmnjkhgfnoaa
