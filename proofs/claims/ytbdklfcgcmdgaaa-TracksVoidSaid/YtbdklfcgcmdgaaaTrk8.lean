
/-
  tracks.copies; tracks.New.
-/
import Derived.Test.YtbdklfcgcmdgaaaTrk6
import Derived.Test.YtbdklfcgcmdgaaaWrdJ
namespace Go.Proofs.Ytbdklfcgcmdgaaa
open Go.RowKit
set_option linter.unusedVariables false
set_option linter.unusedSimpArgs false

def cpL (l : List Rw) (n k : Nat) : List Rw := tab n fun s => if s < k then l.getD s rw0 else rw0
theorem cpL_zero (l : List Rw) (n : Nat) : List.replicate n rw0 = cpL l n 0 := by
  refine tab_ext (by simp) fun k hk => ?_
  rw [if_neg (by omega)]; simp [hk]
theorem cpL_end {l : List Rw} {n : Nat} (h : l.length = n) : cpL l n n = l := by
  refine (tab_ext h fun k hk => ?_).symm
  rw [if_pos hk, List.getD_eq_getElem?_getD, List.getElem?_eq_getElem (by omega)]; rfl
theorem cpL_set {l : List Rw} {n k : Nat} {r : Rw} (hk : k < n) (hr : l[k]? = some r) : (cpL l n k).set k r = cpL l n (k + 1) := by
  refine tab_put hk (by rw [if_pos (by omega), List.getD_eq_getElem?_getD, hr]; rfl) fun j hj hne => ?_
  by_cases h : j < k
  · rw [if_pos h, if_pos (by omega)]
  · rw [if_neg h, if_neg (by omega)]

def CopiesPost (l : List Rw) (w : World) (e : Ending) (w' : World) : Prop :=
  ∃ g, e = .returned (.slice (some ⟨g, 0, none⟩) l.length l.length) ∧ w.heap.size ≤ g ∧ RowsB (fun b => w.heap.size ≤ b ∧ b ≠ g) w' g 54 l ∧ Below w.heap.size w w'
structure CpI (w : World) (l : List Rw) (n g k : Nat) (wr : World) : Prop where
  r : RowsB (fun b => w.heap.size ≤ b ∧ b ≠ g) wr g 54 (cpL l n k)
  bel : Below w.heap.size w wr
theorem CpI.below {w : World} {l : List Rw} {n g k : Nat} {wr w' : World} (h : CpI w l n g k wr) (hb : Below wr.heap.size wr w') : CpI w l n g k w' :=
  ⟨h.r.keep hb.size (fun b _ hl => hb.block b hl), h.bel.trans (hb.mono h.bel.size)⟩
set_option maxRecDepth 100000 in
set_option maxHeartbeats 1000000 in
theorem copies_any (S : Nat → Prop) (a : Option Addr) (len cap : Nat) (l : List Rw) (w : World) (hrd : RdRs S w a len l) (hm1 : len ≤ cap) (hm2 : cap ≤ maxLen) (hlen : len ≤ 1000000) (hbt : ∀ r ∈ l, r.t.length ≤ 100000) :
    Calls Try.prog 58 #[.slice a len cap] w (CopiesPost l w) := by
  have hll := hrd.1
  have HLL := Lib.hid hrd.1
  have HR := Lib.hid (And.intro hrd hbt)
  unfold maxLen at hm2
  have HI : Hid (CpI w l len w.heap.size 0 (w.alloc (.cells (zrep rowZ len).toArray 54))) := Lib.hid ⟨by
    rw [← cpL_zero]; exact RowsB.start _ _ _ _, (Below.refl _ _).alloc (Nat.le_refl _) _⟩
  have hmk : len ≤ 1048576 := by omega
  clear hrd hbt hll
  go_enter Try.func58, Try.ntmps58
  go_wp2_with fail
  generalize hg : w.heap.size = g at HI ⊢
  have HG := Lib.hid hg
  clear hg
  generalize (w.alloc (.cells (zrep rowZ len).toArray 54)) = w0 at HI ⊢
  go_loopw [11] (fun i wr => ∃ k : Nat, k ≤ len ∧ i = .int .i64 k ∧ CpI w l len g k wr) (fun i _ => len - (intOf i).toNat)
  case atStart => exact ⟨0, by omega, rfl, HI.out⟩
  case round =>
    obtain ⟨k, hk, rfl, hI⟩ := hrel
    have HJ := Lib.hid hI
    clear hI
    by_cases hlt : k < len
    · obtain ⟨b, off, x, m, cp, r, rfl, -, hbw, hl, hok, -, -, g1, g2, -, -, g5, g6, g7⟩ := (HR.out.1.below HJ.out.bel (fun b _ h => h)).at_ k hlt
      obtain ⟨xv, hxv⟩ : ∃ xv, xv = r.vals (.slice x m cp) := ⟨_, rfl⟩
      have g3 : rowOf wr ⟨b, off + k * 57, none⟩ 57 = xv := by rw [hxv]; exact g2
      have hvl : xv.length = 57 := by rw [hxv]; exact Rw.len hok _
      have htk : List.take 57 xv = xv := List.take_of_length_le (by omega)
      have hvc : xv.all cell1 = true := by rw [hxv]; exact RowR.cell1 (S := S) (w := wr) ⟨x, m, cp, rfl, g5, g6, g7⟩ hok
      have HT : Hid (RowR S (wr.alloc (.cells xv.toArray 54)) r (.slice x m cp)) := Lib.hid ⟨x, m, cp, rfl, g5.below ((Below.refl wr.heap.size wr).alloc (Nat.le_refl _) _) (fun b _ h => h), g6, g7⟩
      have HC := Lib.hid (copy_any S r hok (.slice x m cp) _ HT.out (HR.out.2 r (List.mem_of_getElem? hl)))
      rw [← hxv] at HC
      have HX := Lib.hid (And.intro hl hok)
      have H6 := Lib.hid (HJ.out.below ((Below.refl wr.heap.size wr).alloc (Nat.le_refl _) (.cells xv.toArray 54)))
      have HLT := Lib.hid hlt
      clear hl hok g2 g5 g6 g7 hxv
      go_wp2_with fail
      (with_reducible refine HC.out.mono ?_)
      rintro e w7 ⟨x', rfl, hx', hb7⟩
      have H7 := Lib.hid (H6.out.below hb7)
      have c3 : canPut w7 ⟨g, k * 57, none⟩ 57 = true := H7.out.r.canPut k (by rw [cpL, tab_len]; exact HLT.out)
      have HGS : Hid (w.heap.size ≤ wr.heap.size ∧ g < wr.heap.size) := Lib.hid ⟨HJ.out.bel.size, HJ.out.r.lt⟩
      obtain ⟨yv, hyv⟩ : ∃ yv, yv = r.vals (.slice x' r.t.length r.t.length) := ⟨_, rfl⟩
      rw [← hyv]
      have hyl : yv.length = 57 := by rw [hyv]; exact Rw.len HX.out.2 _
      have hyc : yv.all cell1 = true := by rw [hyv]; exact hx'.1.cell1 HX.out.2
      have HEND : Hid (CpI w l len g (k + 1) (putRow w7 ⟨g, k * 57, none⟩ yv)) := Lib.hid (by
        have hs := HGS.out
        have hgw := HG.out
        have hmo : ∀ b, b < w7.heap.size → (wr.alloc (.cells xv.toArray 54)).heap.size ≤ b → w.heap.size ≤ b ∧ b ≠ g := fun b _ h => by
          have h' : wr.heap.size + 1 ≤ b := by simpa using h
          exact ⟨by omega, by omega⟩
        have h1 := H7.out.r.set (fun b hb => hb.2) (k := k) (by rw [cpL, tab_len]; exact HLT.out) HX.out.2 (hx'.mono (S' := fun b => w.heap.size ≤ b ∧ b ≠ g) hmo)
        rw [cpL_set HLT.out HX.out.1, ← hyv] at h1
        exact ⟨h1, Below.put H7.out.bel (p := ⟨g, k * 57, none⟩) (by show w.heap.size ≤ g; omega) _⟩)
      clear hx' hb7 hyv HX H7
      go_wp2_with fail
      exact ⟨⟨k + 1, by omega, by go_num, HEND.out⟩, by simp [intOf]; omega⟩
    · obtain rfl : k = len := by omega
      go_wp2_with fail
      go_ret
      have h1 := HJ.out.r
      rw [cpL_end HLL.out] at h1
      refine ⟨g, by rw [HLL.out]; rfl, by rw [HG.out]; exact Nat.le_refl _, h1, HJ.out.bel⟩
end Go.Proofs.Ytbdklfcgcmdgaaa
