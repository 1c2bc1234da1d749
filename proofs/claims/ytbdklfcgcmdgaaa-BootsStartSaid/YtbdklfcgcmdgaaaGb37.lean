/-
  agrees.Agree, agrees.Table. The plain law of AgreesOne: all but one hold the same of each that is not it; so all agree on one vector. A ring whose nodes say what they hold: what they agree on. No program in sight.
-/
import Derived.Test.YtbdklfcgcmdgaaaGb36
import Derived.Test.YtbdklfcgcmdgaaaGb20
import Derived.Test.YtbdklfcgcmdgaaaGb04
namespace Go.Proofs.Ytbdklfcgcmdgaaa
open Go.RowKit
set_option linter.unusedVariables false
set_option linter.unusedSimpArgs false

/-- a vector that is a whole block -/
def VecV (B : Nat) (L : List Hd) (v : Value) (w : World) : Prop := (∃ g, v = .slice (some ⟨g, 0, none⟩) L.length L.length ∧ Blk w g 114 (flatH L).toArray ∧ B ≤ g) ∨ (L = [] ∧ v = .slice none 0 0)
/-- a vector, in new memory -/
def VecPost (L : List Hd) (w : World) (e : Ending) (w' : World) : Prop := (∃ v, e = .returned v ∧ VecV w.heap.size L v w') ∧ Below w.heap.size w w'
theorem VecV.rd {B : Nat} {L : List Hd} {v : Value} {w : World} (hL : ∀ x ∈ L, x.ok) (h : VecV B L v w) : ∃ a, v = .slice a L.length L.length ∧ RdHs (B ≤ ·) w a L.length L := by
  rcases h with ⟨g, rfl, hb, hg⟩ | ⟨rfl, rfl⟩
  · have h3 : Blk w g 114 (flatH L ++ []).toArray := by simpa using hb
    exact ⟨_, rfl, (RdHs.of_blk h3 hL).mono (fun b _ h => by omega)⟩
  · exact ⟨none, rfl, ⟨rfl, by simp, by simp⟩⟩
theorem VecV.keep {B : Nat} {L : List Hd} {v : Value} {w w' : World} (h : VecV B L v w) (hk : ∀ b, B ≤ b → b < w.heap.size → w'.heap[b]? = w.heap[b]?) : VecV B L v w' := by
  rcases h with ⟨g, rfl, hb, hg⟩ | ⟨rfl, rfl⟩
  · exact .inl ⟨g, rfl, (hk g hg hb.lt).trans hb, hg⟩
  · exact .inr ⟨rfl, rfl⟩
open Classical in
noncomputable def mostH (n s : Nat) (l : List Rw) (M : Nat) : Hd := if h : ∃ c, okL cellK c = true ∧ n - 1 < 2 * cntL s l M c then ⟨true, Classical.choose h⟩ else hd0
theorem MostP.eq {n s : Nat} {l : List Rw} {M : Nat} (hs : s < n) (hM : M ≤ n) {h : Hd} (p : MostP n s l M h) : h = mostH n s l M := by
  refine p.unique hs hM ?_
  unfold mostH
  split
  · rename_i hx
    exact .inl ⟨_, rfl, (Classical.choose_spec hx).1, (Classical.choose_spec hx).2⟩
  · rename_i hx
    refine .inr ⟨rfl, ?_⟩
    rcases p with ⟨c, -, h1, h2⟩ | ⟨-, h1⟩
    · exact absurd ⟨c, h1, h2⟩ hx
    · exact h1
theorem mostH_ok (n s : Nat) (l : List Rw) (M : Nat) : (mostH n s l M).ok := by
  unfold mostH
  split
  · rename_i hx; exact (Classical.choose_spec hx).1
  · exact hd0_ok
noncomputable def agreeL (n : Int) (l : List Rw) : List Hd := if 4 ≤ n ∧ n ≤ 16 then (List.range n.toNat).map (fun s => mostH n.toNat s l (min n.toNat l.length)) else []
def tabL (l : List Rw) : List Hd := l.map fun r => ⟨r.is, r.c⟩
theorem agreeL_ok {n : Int} {l : List Rw} : ∀ x ∈ agreeL n l, x.ok := fun x hx => by
  unfold agreeL at hx
  split at hx
  · obtain ⟨s, -, rfl⟩ := List.mem_map.1 hx
    exact mostH_ok _ _ _ _
  · cases hx
theorem tabL_ok {l : List Rw} (h : ∀ r ∈ l, r.ok) : ∀ x ∈ tabL l, x.ok := fun x hx => by
  obtain ⟨r, hr, rfl⟩ := List.mem_map.1 hx
  exact (h r hr).1
/-- the first k of a vector of N -/
def parH (N k : Nat) (L : List Hd) : List Hd := L.take k ++ List.replicate (N - k) hd0
theorem parH_len {N k : Nat} {L : List Hd} (h1 : k ≤ N) (h2 : k ≤ L.length) : (parH N k L).length = N := by simp [parH]; omega
theorem parH_ok {N k : Nat} {L : List Hd} (h : ∀ x ∈ L, x.ok) : ∀ x ∈ parH N k L, x.ok := fun x hx => by
  rcases List.mem_append.1 hx with hx | hx
  · exact h x (List.mem_of_mem_take hx)
  · rw [List.eq_of_mem_replicate hx]; exact hd0_ok
theorem parH_set {N k : Nat} {L : List Hd} {x : Hd} (h1 : k < N) (hx : L[k]? = some x) : (parH N k L).set k x = parH N (k + 1) L := by
  have h2 : k < L.length := (List.getElem?_eq_some_iff.1 hx).1
  unfold parH
  rw [List.take_add_one, hx]
  have e : N - k = (N - (k + 1)) + 1 := by omega
  rw [e, List.replicate_succ, List.set_append, if_neg (by simp; omega)]
  have e2 : k - (L.take k).length = 0 := by simp; omega
  rw [e2]
  simp
theorem parH_end (L : List Hd) : parH L.length L.length L = L := by simp [parH]
/-- what a round knows -/
structure PV (w : World) (N k : Nat) (L : List Hd) (wr : World) : Prop where
  blk : Blk wr w.heap.size 114 (flatH (parH N k L)).toArray
  bel : Below w.heap.size w wr
theorem PV.start (w : World) (N : Nat) (L : List Hd) : PV w N 0 L (w.alloc (.cells (zrep heldZ N).toArray 114)) := by
  refine ⟨?_, (Below.refl _ _).alloc (Nat.le_refl _) _⟩
  rw [flatH_rep]
  have : parH N 0 L = List.replicate N hd0 := by simp [parH]
  rw [this]
  exact Blk.new _ _ _
theorem PV.step {w : World} {N k : Nat} {L : List Hd} {wr w1 : World} (h : PV w N k L wr) (hb : Below wr.heap.size wr w1) (hL : ∀ x ∈ L, x.ok) (hN : N = L.length) {x : Hd} (hx : L[k]? = some x) :
    canPut w1 ⟨w.heap.size, k * 56, none⟩ 56 = true ∧ PV w N (k + 1) L (putRow w1 ⟨w.heap.size, k * 56, none⟩ x.vals) := by
  have h2 : k < L.length := (List.getElem?_eq_some_iff.1 hx).1
  have hlen := len_flatH (parH_ok (N := N) (k := k) hL)
  rw [parH_len (by omega) (by omega)] at hlen
  have hbk := h.blk.below hb h.blk.lt
  have hfs := flatH_set (parH_ok (N := N) (k := k) hL) (k := k) (by rw [parH_len (by omega) (by omega)]; omega) x (hL x (List.mem_of_getElem? hx))
  rw [parH_set (by omega) hx] at hfs
  refine ⟨?_, ?_, Below.put (h.bel.trans (hb.mono h.bel.size)) (p := ⟨w.heap.size, k * 56, none⟩) (Nat.le_refl _) x.vals⟩
  · obtain ⟨-, -, -, -, h5⟩ := hbk.rules
    rw [h5, hlen]
    have : (k + 1) * 56 ≤ N * 56 := Nat.mul_le_mul_right _ (by omega)
    simp; omega
  · have := hbk.put (k * 56) x.vals
    rw [← hfs]; exact this
theorem PV.post {w : World} {L : List Hd} {wr : World} (h : PV w L.length L.length L wr) : VecPost L w (.returned (.slice (some ⟨w.heap.size, 0, none⟩) L.length L.length)) wr := by
  obtain ⟨h1, h2⟩ := h
  rw [parH_end] at h1
  exact ⟨⟨_, rfl, .inl ⟨_, rfl, h1, Nat.le_refl _⟩⟩, h2⟩

set_option maxRecDepth 100000 in
set_option maxHeartbeats 2000000 in
theorem agree_any (S : Nat → Prop) (n : Int) (a : Option Addr) (len cap : Nat) (l : List Rw) (w : World) (hrd : RdRs S w a len l) (hm1 : len ≤ cap) (hm2 : cap ≤ maxLen) :
    Calls Try.prog 41 #[.int .i64 n, .slice a len cap] w (VecPost (agreeL n l) w) := by
  have hll : l.length = len := hrd.1
  by_cases hr : 4 ≤ n ∧ n ≤ 16
  · obtain ⟨N, rfl⟩ : ∃ N : Nat, n = N := ⟨n.toNat, by omega⟩
    have hA : agreeL N l = (List.range N).map (fun s => mostH N s l (min N len)) := by
      unfold agreeL
      rw [if_pos hr]; simp [hll]
    have hAo := agreeL_ok (n := N) (l := l)
    generalize agreeL N l = L at hA hAo ⊢
    have hLl : N = L.length := by rw [hA]; simp
    have hat : ∀ k, k < N → L[k]? = some (mostH N k l (min N len)) := fun k hk => by rw [hA]; simp [hk]
    have hN4 : 4 ≤ N := by omega
    have hN16 : N ≤ 16 := by omega
    have hN1 : N ≤ 1048576 := by omega
    have hb1 : ¬ (N : Int) < 4 := by omega
    have hb2 : ¬ 16 < (N : Int) := by omega
    have hst := PV.start w N L
    have HH := Lib.hid (And.intro hrd (And.intro hAo (And.intro hLl hat)))
    clear hrd hA hAo hLl hat hr
    go_enter Try.func41, Try.ntmps41
    go_upto_region 5 with fail
    generalize w.alloc (.cells (zrep heldZ N).toArray 114) = w1 at hst ⊢
    have H1 := Lib.hid hst
    clear hst
    go_loopw [17] (fun i wr => ∃ k : Nat, k ≤ N ∧ i = .int .i64 k ∧ PV w N k L wr) (fun i _ => N - (intOf i).toNat)
    case atStart => exact ⟨0, by omega, rfl, H1.out⟩
    case round =>
      obtain ⟨k, hk, rfl, hr⟩ := hrel
      by_cases hlt : k < N
      · have hcall := most_any S N k ⟨hN4, hN16⟩ hlt a len cap l wr (HH.out.1.below hr.bel (fun _ _ h => h)) hm1 hm2
        have HC := Lib.hid (And.intro hcall hr)
        clear hcall hr
        go_wp2_with fail
        refine HC.out.1.mono ?_
        rintro e w2 ⟨x, rfl, hx, hb2'⟩
        have hxe := hx.eq hlt (Nat.min_le_left _ _)
        have hxo : x.ok := by rw [hxe]; exact mostH_ok _ _ _ _
        have hxl := Hd.vals_len hxo
        have hxc := Hd.cell1 hxo
        obtain ⟨p1, p2⟩ := HC.out.2.step hb2' HH.out.2.1 HH.out.2.2.1 (x := x) (by rw [hxe]; exact HH.out.2.2.2 k hlt)
        have H2 := Lib.hid p2
        clear p2 hx hxe hxo hb2'
        go_wp2
        exact ⟨⟨k + 1, by omega, by go_num, H2.out⟩, by simp [intOf]; omega⟩
      · have hkN : k = N := by omega
        subst hkN
        have H2 := Lib.hid hr
        clear hr
        go_wp2
        go_ret
        have h1 := H2.out
        rw [HH.out.2.2.1] at h1 ⊢
        exact h1.post
  · have hA : agreeL n l = [] := by unfold agreeL; rw [if_neg hr]
    rw [hA]
    have HF := Lib.hid (show VecPost [] w (.returned (.slice none 0 0)) w from ⟨⟨_, rfl, .inr ⟨rfl, rfl⟩⟩, Below.refl _ _⟩)
    by_cases h4 : n < 4
    · go_enter Try.func41, Try.ntmps41
      go_wp2
      go_ret
      exact HF.out
    · have h16 : 16 < n := by omega
      go_enter Try.func41, Try.ntmps41
      go_wp2
      go_ret
      exact HF.out

set_option maxRecDepth 100000 in
set_option maxHeartbeats 2000000 in
theorem table_any (S : Nat → Prop) (a : Option Addr) (len cap : Nat) (l : List Rw) (w : World) (hrd : RdRs S w a len l) (hm1 : len ≤ cap) (hm2 : cap ≤ maxLen) (hsm : len ≤ 100000) :
    Calls Try.prog 39 #[.slice a len cap] w (VecPost (tabL l) w) := by
  have hll : l.length = len := hrd.1
  have hTo := tabL_ok hrd.2.1
  have hTl : len = (tabL l).length := by simp [tabL, hll]
  have hat : ∀ (k : Nat) (r : Rw), l[k]? = some r → (tabL l)[k]? = some ⟨r.is, r.c⟩ := fun k r hk => by simp [tabL, hk]
  generalize tabL l = L at hTo hTl hat ⊢
  have hN1 : len ≤ 1048576 := by omega
  have hst := PV.start w len L
  have HH := Lib.hid (And.intro hrd (And.intro hTo (And.intro hTl hat)))
  clear hrd hTo hTl hat
  unfold maxLen at hm2
  go_enter Try.func39, Try.ntmps39
  go_upto_region 3 with fail
  generalize w.alloc (.cells (zrep heldZ len).toArray 114) = w1 at hst ⊢
  have H1 := Lib.hid hst
  clear hst
  go_loopw [11] (fun i wr => ∃ k : Nat, k ≤ len ∧ i = .int .i64 k ∧ PV w len k L wr) (fun i _ => len - (intOf i).toNat)
  case atStart => exact ⟨0, by omega, rfl, H1.out⟩
  case round =>
    obtain ⟨k, hk, rfl, hr⟩ := hrel
    by_cases hlt : k < len
    · obtain ⟨b, off, x, m, cp, r, rfl, hS, hbw, hv, hok, hrl, hrc1, hr1, hr2, -, -, hr5, hr6, hr7⟩ := HH.out.1.at_ k hlt
      have d := row_below hr.bel (p := ⟨b, off + k * 57, none⟩) hbw 57
      have d1 := d.1.trans hr1
      have d2 : rowOf wr ⟨b, off + k * 57, none⟩ 57 = r.vals (.slice x m cp) := d.2.trans hr2
      have hvl := Rw.len hok (.slice x m cp)
      have hvc : (r.vals (.slice x m cp)).all cell1 = true := RowR.cell1 (S := S) (w := w) ⟨x, m, cp, rfl, hr5, hr6, hr7⟩ hok
      have HR := Lib.hid (And.intro hr hv)
      clear d hr1 hr2 hr5 hr hv hrl
      go_upto_region 5 with fail
      have hB2 : Below wr.heap.size wr (wr.alloc (.cells (r.vals (.slice x m cp)).toArray 54)) := (Below.refl _ _).alloc (Nat.le_refl _) _
      have hbk : Blk (wr.alloc (.cells (r.vals (.slice x m cp)).toArray 54)) wr.heap.size 54 (r.vals (.slice x m cp)).toArray := Blk.new _ _ _
      generalize wr.alloc (.cells (r.vals (.slice x m cp)).toArray 54) = w2 at hB2 hbk ⊢
      obtain ⟨f0, f1, f2, -⟩ := blk_row hbk hok
      have hcl : r.c.length = 55 := (okL_len hok.1).trans len_cellK
      have hyc : (Value.bool r.is :: r.c).all cell1 = true := by simp [hrc1, cell1]
      have hyl : (Value.bool r.is :: r.c).length = 56 := by simp [hcl]
      obtain ⟨p1, p2⟩ := HR.out.1.step hB2 HH.out.2.1 HH.out.2.2.1 (HH.out.2.2.2 k r HR.out.2)
      have H2 := Lib.hid p2
      clear p2 hB2 hbk
      go_wp2
      exact ⟨⟨k + 1, by omega, by go_num, H2.out⟩, by simp [intOf]; omega⟩
    · have hkN : k = len := by omega
      subst hkN
      have H2 := Lib.hid hr
      clear hr
      go_wp2
      go_ret
      have h1 := H2.out
      rw [HH.out.2.2.1] at h1 ⊢
      exact h1.post
end Go.Proofs.Ytbdklfcgcmdgaaa
namespace Go.Proofs.Ytbdklfcgcmdgaaa
open Go.RowKit
set_option linter.unusedVariables false
set_option linter.unusedSimpArgs false

def optH (h : Hd) : Option (List Value) := if h.is then some h.c else none
def truS (C : List (List Value)) (s : Nat) : Hd := if C = [] then hd0 else ⟨true, C.getD (s % C.length) cellZ⟩
def truL (N : Nat) (C : List (List Value)) : List Hd := (List.range N).map (truS C)
def hldS (H : List Hd) (k : Nat) : Hd := if H = [] then hd0 else H.getD (k % H.length) hd0
def rowS (N B : Nat) (C : List (List Value)) (H : List Hd) (k : Nat) : Rw := ⟨true, (truS C k).c, (truL N C).set B (hldS H k)⟩
def rowsL (N B : Nat) (C : List (List Value)) (H : List Hd) : List Rw := (List.range N).map (rowS N B C H)
def badS (X : List Rw) (i : Nat) : Rw := if X = [] then rw0 else X.getD (i % X.length) rw0
def heldL (N B : Nat) (C : List (List Value)) (H : List Hd) (X : List Rw) (i : Nat) : List Rw := (rowsL N B C H).set B (badS X i)
open Classical in
noncomputable def mostF (n : Nat) (f : List Value → Nat) : Hd := if h : ∃ c, okL cellK c = true ∧ n - 1 < 2 * f c then ⟨true, Classical.choose h⟩ else hd0
theorem mostF_eq (n s : Nat) (l : List Rw) (M : Nat) : mostH n s l M = mostF n (cntL s l M) := rfl
noncomputable def oneV (N B : Nat) (C : List (List Value)) (H : List Hd) : List Hd := (List.range N).map fun s => if s = B then mostF N (cntL B (rowsL N B C H) N) else truS C s

theorem getD_ok {C : List (List Value)} (h : ∀ c ∈ C, okL cellK c = true) (i : Nat) : okL cellK (C.getD i cellZ) = true := by
  rw [List.getD_eq_getElem?_getD]
  by_cases hi : i < C.length
  · rw [List.getElem?_eq_getElem hi]; exact h _ (List.getElem_mem hi)
  · rw [List.getElem?_eq_none (by omega)]; exact cellZ_ok
theorem truS_ok {C : List (List Value)} (h : ∀ c ∈ C, okL cellK c = true) (s : Nat) : (truS C s).ok := by
  unfold truS
  split
  · exact hd0_ok
  · exact getD_ok h _
theorem hldS_ok {H : List Hd} (h : ∀ x ∈ H, x.ok) (k : Nat) : (hldS H k).ok := by
  unfold hldS
  split
  · exact hd0_ok
  · rw [List.getD_eq_getElem?_getD]
    by_cases hi : k % H.length < H.length
    · rw [List.getElem?_eq_getElem hi]; exact h _ (List.getElem_mem hi)
    · rw [List.getElem?_eq_none (by omega)]; exact hd0_ok
theorem badS_ok {X : List Rw} (h : ∀ x ∈ X, x.ok) (k : Nat) : (badS X k).ok := by
  unfold badS
  split
  · exact rw0_ok
  · rw [List.getD_eq_getElem?_getD]
    by_cases hi : k % X.length < X.length
    · rw [List.getElem?_eq_getElem hi]; exact h _ (List.getElem_mem hi)
    · rw [List.getElem?_eq_none (by omega)]; exact rw0_ok
theorem truL_len (N : Nat) (C : List (List Value)) : (truL N C).length = N := by simp [truL]
theorem truL_at {N : Nat} (C : List (List Value)) {s : Nat} (h : s < N) : (truL N C)[s]? = some (truS C s) := by simp [truL, h]
theorem truL_ok {N : Nat} {C : List (List Value)} (h : ∀ c ∈ C, okL cellK c = true) : ∀ x ∈ truL N C, x.ok := fun x hx => by
  obtain ⟨s, -, rfl⟩ := List.mem_map.1 hx
  exact truS_ok h s
theorem rowS_ok {N B : Nat} {C : List (List Value)} {H : List Hd} (hC : ∀ c ∈ C, okL cellK c = true) (hH : ∀ x ∈ H, x.ok) (k : Nat) : (rowS N B C H k).ok :=
  ⟨truS_ok hC k, ok_set (truL_ok hC) B (hldS_ok hH k)⟩
theorem rowsL_len (N B : Nat) (C : List (List Value)) (H : List Hd) : (rowsL N B C H).length = N := by simp [rowsL]
theorem rowsL_at {N : Nat} (B : Nat) (C : List (List Value)) (H : List Hd) {k : Nat} (h : k < N) : (rowsL N B C H)[k]? = some (rowS N B C H k) := by simp [rowsL, h]
theorem oneV_len (N B : Nat) (C : List (List Value)) (H : List Hd) : (oneV N B C H).length = N := by simp [oneV]
theorem oneV_at {N : Nat} (B : Nat) (C : List (List Value)) (H : List Hd) {s : Nat} (h : s < N) (hs : s ≠ B) : (oneV N B C H)[s]? = some (truS C s) := by simp [oneV, h, hs]
theorem mostF_ok (n : Nat) (f : List Value → Nat) : (mostF n f).ok := by
  unfold mostF
  split
  · rename_i hx; exact (Classical.choose_spec hx).1
  · exact hd0_ok
theorem oneV_ok {N B : Nat} {C : List (List Value)} {H : List Hd} (hC : ∀ c ∈ C, okL cellK c = true) : ∀ x ∈ oneV N B C H, x.ok := fun x hx => by
  obtain ⟨s, -, rfl⟩ := List.mem_map.1 hx
  split
  · exact mostF_ok _ _
  · exact truS_ok hC s

theorem hasC_row {L : List Rw} {N B : Nat} {C : List (List Value)} {H : List Hd} {k s : Nat} (hk : L[k]? = some (rowS N B C H k)) (hs : s < N) : hasC L k s = if s = B then optH (hldS H k) else optH (truS C s) := by
  unfold hasC
  rw [hk]
  simp only [rowS, if_true]
  by_cases h : s = B
  · subst h
    rw [List.getElem?_set_self (by rw [truL_len]; exact hs)]
    rw [if_pos rfl]; rfl
  · rw [List.getElem?_set_ne (fun h' => h h'.symm), truL_at C hs, if_neg h]; rfl
theorem cnt_lo {L : List Rw} {N B s : Nat} {c : List Value} (h : ∀ k, k < N → k ≠ B → hasC L k s = some c) : ∀ k, k ≤ N → k ≤ cntL s L k c + (if s < k then 1 else 0) + (if B < k then 1 else 0)
  | 0, _ => by omega
  | k + 1, hk => by
    have ih := cnt_lo h k (by omega)
    unfold cntL
    by_cases hB : k = B
    · split at ih <;> split at ih <;> split <;> split <;> split <;> omega
    · by_cases hs : k = s
      · split at ih <;> split at ih <;> split <;> split <;> split <;> omega
      · rw [if_pos ⟨hs, h k (by omega) hB⟩]
        split at ih <;> split at ih <;> split <;> split <;> omega
theorem cnt_hi {L : List Rw} {N B s : Nat} (c : List Value) (h : ∀ k, k < N → k ≠ B → hasC L k s = none) : ∀ k, k ≤ N → cntL s L k c ≤ if B < k then 1 else 0
  | 0, _ => by simp [cntL]
  | k + 1, hk => by
    have ih := cnt_hi c h k (by omega)
    unfold cntL
    by_cases hB : k = B
    · split at ih <;> split <;> split <;> omega
    · rw [if_neg (fun h' => by rw [h k (by omega) hB] at h'; cases h'.2)]
      split at ih <;> split <;> omega
theorem cnt_eq {L L' : List Rw} {N B : Nat} (c : List Value) (h : ∀ k, k < N → k ≠ B → hasC L k B = hasC L' k B) : ∀ k, k ≤ N → cntL B L k c = cntL B L' k c
  | 0, _ => rfl
  | k + 1, hk => by
    have ih := cnt_eq c h k (by omega)
    unfold cntL
    rw [ih]
    by_cases hB : k = B
    · rw [if_neg (fun h => h.1 hB), if_neg (fun h => h.1 hB)]
    · rw [h k (by omega) hB]
theorem agree_one {N B : Nat} (h4 : 4 ≤ N) (h16 : N ≤ 16) (hB : B < N) {C : List (List Value)} {H : List Hd} {L : List Rw} (hC : ∀ c ∈ C, okL cellK c = true) (hL : L.length = N) (hrow : ∀ k, k < N → k ≠ B → L[k]? = some (rowS N B C H k)) :
    agreeL N L = oneV N B C H := by
  have hh : ∀ s, s < N → ∀ k, k < N → k ≠ B → hasC L k s = if s = B then optH (hldS H k) else optH (truS C s) := fun s hs k hk hkB => hasC_row (hrow k hk hkB) hs
  unfold agreeL oneV
  rw [if_pos (by omega), hL]
  simp only [Int.toNat_natCast, Nat.min_self]
  refine List.map_congr_left fun s hs => ?_
  have hs : s < N := by simpa using hs
  by_cases hsB : s = B
  · subst hsB
    rw [if_pos rfl, mostF_eq]
    congr 1
    funext c
    refine cnt_eq c (fun k hk hkB => ?_) N (Nat.le_refl _)
    rw [hh s hs k hk hkB, hasC_row (rowsL_at s C H hk) hs]
  · rw [if_neg hsB]
    refine (MostP.eq (n := N) hs (Nat.le_refl _) ?_).symm
    have hall : ∀ k, k < N → k ≠ B → hasC L k s = optH (truS C s) := fun k hk hkB => by rw [hh s hs k hk hkB, if_neg hsB]
    by_cases hC0 : C = []
    · have e : truS C s = hd0 := by simp [truS, hC0]
      rw [e] at hall ⊢
      refine .inr ⟨rfl, fun c => ?_⟩
      have := cnt_hi c (fun k hk hkB => (hall k hk hkB).trans rfl) N (Nat.le_refl _)
      split at this <;> omega
    · have e : truS C s = ⟨true, C.getD (s % C.length) cellZ⟩ := by simp [truS, hC0]
      rw [e] at hall ⊢
      refine .inl ⟨_, rfl, getD_ok hC _, ?_⟩
      have := cnt_lo (c := C.getD (s % C.length) cellZ) (fun k hk hkB => (hall k hk hkB).trans rfl) N (Nat.le_refl _)
      rw [if_pos hs, if_pos hB] at this
      omega
theorem heldL_len (N B : Nat) (C : List (List Value)) (H : List Hd) (X : List Rw) (i : Nat) : (heldL N B C H X i).length = N := by simp [heldL, rowsL_len]
theorem agree_held {N B : Nat} (h4 : 4 ≤ N) (h16 : N ≤ 16) (hB : B < N) {C : List (List Value)} {H : List Hd} {X : List Rw} (hC : ∀ c ∈ C, okL cellK c = true) (i : Nat) : agreeL N (heldL N B C H X i) = oneV N B C H :=
  agree_one h4 h16 hB hC (heldL_len _ _ _ _ _ _) fun k hk hkB => by
    unfold heldL
    rw [List.getElem?_set_ne (fun h => hkB h.symm)]
    exact rowsL_at B C H hk
end Go.Proofs.Ytbdklfcgcmdgaaa
namespace Go.Proofs.Ytbdklfcgcmdgaaa
open Go.RowKit
set_option linter.unusedVariables false
set_option linter.unusedSimpArgs false

/-! ### all rows are rows -/
def RingM.okR (R : RingM) : Prop := (∀ i, (R.lane i).okP) ∧ (∀ W ∈ R.sent, ∀ i k, ∀ r ∈ W i k, Rw.ok r) ∧ ∀ a ∈ R.F.acts, a.row.ok
theorem sentM_ok {R : RingM} (h : R.okR) (i link ago : Nat) : ∀ r ∈ R.sentM i link ago, r.ok := by
  unfold RingM.sentM
  split
  · simp
  · rw [List.getD_eq_getElem?_getD]
    cases hx : R.sent[R.sent.length - ago]? with
    | none => simp
    | some W => exact h.2.1 W (List.mem_of_getElem? hx) _ _
theorem insM_ok {R : RingM} (h : R.okR) (i q : Nat) : ∀ r ∈ R.insM i q, r.ok := by
  unfold RingM.insM
  split
  · exact sentM_ok h _ _ _
  · split
    · exact sentM_ok h _ _ _
    · split
      · exact sentM_ok h _ _ _
      · exact sentM_ok h _ _ _
theorem RingM.okR_new (N : Nat) (F : FltM) (hF : ∀ a ∈ F.acts, a.row.ok) : (RingM.new N F).okR := ⟨fun i => LaneM.new_ok N i, by simp [RingM.new], hF⟩
theorem RingM.okR_hear {R : RingM} (h : R.okR) (on : Nat → Bool) : (R.hear on).okR := by
  refine ⟨fun i => ?_, h.2.1, h.2.2⟩
  show (if on i then (if R.on i then R.lane i else LaneM.new R.N i).put (R.insM i) else R.lane i).okP
  split
  · refine LaneM.put_ok ?_ (fun q => insM_ok h i q)
    split
    · exact h.1 i
    · exact LaneM.new_ok _ _
  · exact h.1 i
theorem held_okR {R : RingM} (h : R.okR) (i : Nat) : ∀ r ∈ R.held i, r.ok := by
  unfold RingM.held
  split
  · intro r hr
    obtain ⟨s, -, rfl⟩ := tab_mem hr
    exact LaneM.held_ok (h.1 i) s
  · simp
theorem set_okR {l : List Rw} (h : ∀ r ∈ l, r.ok) {r : Rw} (hr : r.ok) (k : Nat) : ∀ x ∈ l.set k r, x.ok := fun x hx => by
  rcases List.mem_or_eq_of_mem_set hx with hx | rfl
  · exact h x hx
  · exact hr
theorem word_okR {R : RingM} (h : R.okR) {own : Nat → Rw} (ho : ∀ i, (own i).ok) (i q : Nat) : ∀ r ∈ R.word own i q, r.ok := by
  unfold RingM.word
  split
  · exact LaneM.out_ok (LaneM.said_ok (h.1 i) (ho i)) q
  · simp
theorem saidM_okR {R : RingM} (h : R.okR) (i k : Nat) {w o : List Rw} (hw : ∀ r ∈ w, r.ok) (ho : ∀ r ∈ o, r.ok) : ∀ r ∈ R.saidM i k w o, r.ok := by
  unfold RingM.saidM
  split
  · split
    · exact hw
    · rename_i a ha
      have har := h.2.2 a (List.mem_of_getElem? ha)
      simp only
      split
      · simp
      · split
        · exact set_okR hw har _
        · split
          · exact sentM_ok h _ _ _
          · split
            · exact ho
            · split
              · exact set_okR hw har _
              · exact hw
  · exact hw
theorem RingM.okR_say {R : RingM} (h : R.okR) {own : Nat → Rw} (ho : ∀ i, (own i).ok) : (R.say own).okR := by
  refine ⟨fun i => ?_, fun W hW i k => ?_, h.2.2⟩
  · show (if R.on i then (R.lane i).said (own i) else R.lane i).okP
    split
    · exact LaneM.said_ok (h.1 i) (ho i)
    · exact h.1 i
  · rcases List.mem_append.1 hW with hW | hW
    · exact h.2.1 W hW i k
    · rw [List.mem_singleton.1 hW]
      unfold RingM.outM
      split
      · exact saidM_okR h _ _ (word_okR h ho _ _) (word_okR h ho _ _)
      · exact saidM_okR h _ _ (word_okR h ho _ _) (word_okR h ho _ _)

/-! ### what the nodes say hangs on what they hold -/
section
variable (N : Nat) (F : FltM) (on : Nat → Nat → Bool) (C : Nat → Nat → List Value)
/-- what a node says of a state of the ring -/
noncomputable def ownA (R : RingM) (t i : Nat) : Rw := if on t i = true then ⟨true, C t i, tabL ((R.hear (on t)).held i)⟩ else rw0
noncomputable def rgA : Nat → RingM
  | 0 => RingM.new N F
  | t + 1 => ((rgA t).hear (on t)).say (ownA on C (rgA t) t)
noncomputable def ownR (t i : Nat) : Rw := ownA on C (rgA N F on C t) t i
theorem rgA_eq (t : Nat) : rgT N F on (ownR N F on C) t = rgA N F on C t := by
  induction t with
  | zero => rfl
  | succ t ih => rw [rgT_succ, ih]; rfl
theorem ownR_eq (t i : Nat) : ownR N F on C t i = if on t i = true then ⟨true, C t i, tabL (((rgT N F on (ownR N F on C) t).hear (on t)).held i)⟩ else rw0 := by
  rw [rgA_eq]; rfl
theorem rgA_ok (hF : ∀ a ∈ F.acts, a.row.ok) (hC : ∀ t i, okL cellK (C t i) = true) (t : Nat) : (rgA N F on C t).okR ∧ ∀ i, (ownR N F on C t i).ok := by
  have own_ok : ∀ (R : RingM) t, R.okR → ∀ i, (ownA on C R t i).ok := fun R t h i => by
    unfold ownA
    split
    · exact ⟨hC t i, tabL_ok (held_okR (RingM.okR_hear h _) i)⟩
    · exact ⟨by kernel_rfl, by simp [rw0]⟩
  induction t with
  | zero => exact ⟨RingM.okR_new N F hF, own_ok _ 0 (RingM.okR_new N F hF)⟩
  | succ t ih =>
    have h1 : (rgA N F on C (t + 1)).okR := RingM.okR_say (RingM.okR_hear ih.1 _) ih.2
    exact ⟨h1, own_ok _ (t + 1) h1⟩
theorem ownR_ok (hF : ∀ a ∈ F.acts, a.row.ok) (hC : ∀ t i, okL cellK (C t i) = true) (t i : Nat) : (ownR N F on C t i).ok := (rgA_ok N F on C hF hC t).2 i
/-- the list that a node holds -/
noncomputable def heldR (t i : Nat) : List Rw := ((rgT N F on (ownR N F on C) t).hear (on t)).held i
theorem heldR_len {t i : Nat} (h : on t i = true) (hi : i < N) : (heldR N F on C t i).length = N := by
  unfold heldR
  rw [held_all N F on (ownR N F on C) t i h hi, tab_len]
theorem heldR_ok (hF : ∀ a ∈ F.acts, a.row.ok) (hC : ∀ t i, okL cellK (C t i) = true) (t i : Nat) : ∀ r ∈ heldR N F on C t i, r.ok := by
  unfold heldR
  rw [rgA_eq]
  exact held_okR (RingM.okR_hear (rgA_ok N F on C hF hC t).1 _) i
/-- may a node say what it likes? -/
def Bd (i : Nat) : Prop := F.at_ % N = i ∧ F.link = false
theorem bd_of {i : Nat} (h : ¬ Bd N F i) : F.at_ % N = i → F.link = true := fun e => by
  cases hl : F.link
  · exact absurd ⟨e, hl⟩ h
  · rfl
/-- what a node holds of one that is right: nothing, or what that said N ticks ago -/
theorem heldR_at (h4 : 4 ≤ N) (hF : ∀ a ∈ F.acts, a.row.ok) (hC : ∀ t i, okL cellK (C t i) = true) {t i s : Nat} (hs : s < N) (hi : i < N) (bs : ¬ Bd N F s) (bi : ¬ Bd N F i) (hon : on t i = true) :
    ∃ r, (heldR N F on C t i)[s]? = some r ∧ ((∀ t i, i < N → on t i = true) → r = if N ≤ t then (ownR N F on C (t - N) s).plain N else rw0) ∧ (r.is = true → N ≤ t ∧ r = (ownR N F on C (t - N) s).plain N) :=
  held_truth N F on (ownR N F on C) h4 hs hi (bd_of N F bs) (bd_of N F bi) (ownR_ok N F on C hF hC) hon
/-- the plain form of what a node says that is on -/
theorem ownR_plain (h16 : N ≤ 16) {t k : Nat} (hon : on t k = true) : (ownR N F on C t k).plain N = ⟨true, nrm (C t k), fillH N (tabL (heldR N F on C t k))⟩ := by
  rw [ownR_eq, if_pos hon]
  unfold Rw.plain
  rw [if_pos (by simp [mayN]; omega)]
  rfl
theorem tabL_at {l : List Rw} {s : Nat} {r : Rw} (h : l[s]? = some r) : (tabL l)[s]? = some ⟨r.is, r.c⟩ := by
  unfold tabL; rw [List.getElem?_map, h]; rfl
/-- what a right node claims of a right one, 2N ticks later: nothing, or just what that said -/
theorem claim_right (h4 : 4 ≤ N) (h16 : N ≤ 16) (hF : ∀ a ∈ F.acts, a.row.ok) (hC : ∀ t i, okL cellK (C t i) = true) {t i k s : Nat} (hi : i < N) (hk : k < N) (hs : s < N) (bi : ¬ Bd N F i) (bk : ¬ Bd N F k) (bs : ¬ Bd N F s) (hon : on t i = true) :
    (hasC (heldR N F on C t i) k s = none ∨ (2 * N ≤ t ∧ on (t - 2 * N) s = true ∧ hasC (heldR N F on C t i) k s = some (nrm (C (t - 2 * N) s)))) ∧
    ((∀ t i, i < N → on t i = true) → 2 * N ≤ t → hasC (heldR N F on C t i) k s = some (nrm (C (t - 2 * N) s))) := by
  obtain ⟨r, hr, hall, his⟩ := heldR_at N F on C h4 hF hC hk hi bk bi hon
  have hasE : ∀ {x : Rw}, r = x → hasC (heldR N F on C t i) k s = if x.is then (match x.t[s]? with | some h => if h.is then some h.c else none | none => none) else none := fun {x} e => by
    unfold hasC; rw [hr, e]; rfl
  -- of a row that k said at tick t - N
  have key : N ≤ t → on (t - N) k = true → r = (ownR N F on C (t - N) k).plain N →
      (hasC (heldR N F on C t i) k s = none ∨ (2 * N ≤ t ∧ on (t - 2 * N) s = true ∧ hasC (heldR N F on C t i) k s = some (nrm (C (t - 2 * N) s)))) ∧ ((∀ t i, i < N → on t i = true) → 2 * N ≤ t → hasC (heldR N F on C t i) k s = some (nrm (C (t - 2 * N) s))) := fun ht hok he => by
    obtain ⟨q, hq, qall, qis⟩ := heldR_at N F on C h4 hF hC hs hk bs bk hok
    have hE := hasE (he.trans (ownR_plain N F on C h16 hok))
    have hfi : (fillH N (tabL (heldR N F on C (t - N) k)))[s]? = some (Hd.nrm ⟨q.is, q.c⟩) := by
      rw [fillH_at N _ s hs, tabL_at hq]
    simp only [hfi, if_true] at hE
    by_cases hqi : q.is = true
    · obtain ⟨h1, h2⟩ := qis hqi
      have hon2 : on (t - N - N) s = true := by
        by_cases ho : on (t - N - N) s = true
        · exact ho
        · rw [ownR_eq, if_neg ho, rw0_plain] at h2
          rw [h2] at hqi; cases hqi
      have e2 : t - N - N = t - 2 * N := by omega
      have hqc : q.c = nrm (C (t - 2 * N) s) := by rw [h2, ownR_plain N F on C h16 hon2, e2]
      have hv : hasC (heldR N F on C t i) k s = some (nrm (C (t - 2 * N) s)) := by
        rw [hE]
        unfold Hd.nrm
        simp only [hqi, if_true]
        rw [hqc, nrm_twice (hC _ _)]
      exact ⟨.inr ⟨by omega, by rw [← e2]; exact hon2, hv⟩, fun _ _ => hv⟩
    · have hn : hasC (heldR N F on C t i) k s = none := by
        rw [hE]
        have hf : q.is = false := by simpa using hqi
        unfold Hd.nrm
        rw [hf]; rfl
      refine ⟨.inl hn, fun h ht2 => ?_⟩
      have := qall h
      rw [if_pos (by omega)] at this
      rw [this, ownR_plain N F on C h16 (h _ _ hs)] at hqi
      exact absurd rfl hqi
  by_cases hri : r.is = true
  · obtain ⟨h1, h2⟩ := his hri
    have hok : on (t - N) k = true := by
      by_cases ho : on (t - N) k = true
      · exact ho
      · rw [ownR_eq, if_neg ho, rw0_plain] at h2
        rw [h2] at hri; cases hri
    exact key h1 hok h2
  · have hf : r.is = false := by simpa using hri
    refine ⟨.inl ?_, fun h ht2 => ?_⟩
    · rw [hasE rfl, hf]; rfl
    · have := hall h
      rw [if_pos (by omega)] at this
      exact (key (by omega) (h _ _ hk) this).2 h ht2
/-- what is agreed of a right node -/
theorem agree_right (h4 : 4 ≤ N) (h16 : N ≤ 16) (hF : ∀ a ∈ F.acts, a.row.ok) (hC : ∀ t i, okL cellK (C t i) = true) {t i s : Nat} (hi : i < N) (hs : s < N) (bi : ¬ Bd N F i) (bs : ¬ Bd N F s) (hon : on t i = true) :
    ∃ x, (agreeL N (heldR N F on C t i))[s]? = some x ∧ ((∀ t i, i < N → on t i = true) → 2 * N ≤ t → x = ⟨true, nrm (C (t - 2 * N) s)⟩) ∧ (x.is = true → 2 * N ≤ t ∧ on (t - 2 * N) s = true ∧ x = ⟨true, nrm (C (t - 2 * N) s)⟩) := by
  have hl := heldR_len N F on C hon hi
  have hB : ∃ B, (∀ k, k ≠ B → ¬ Bd N F k) := ⟨F.at_ % N, fun k hk h => hk h.1.symm⟩
  obtain ⟨B, hB⟩ := hB
  refine ⟨mostH N s (heldR N F on C t i) N, ?_, ?_, ?_⟩
  · unfold agreeL
    rw [if_pos (by omega), List.getElem?_map, hl]
    simp only [Int.toNat_natCast, Nat.min_self]
    rw [List.getElem?_range hs]
    rfl
  · intro hall ht
    refine (MostP.eq (n := N) hs (Nat.le_refl _) (.inl ⟨_, rfl, nrm_ok (hC _ _), ?_⟩)).symm
    have := cnt_lo (N := N) (B := B) (s := s) (L := heldR N F on C t i) (c := nrm (C (t - 2 * N) s)) (fun k hk hkB => (claim_right N F on C h4 h16 hF hC hi hk hs bi (hB k hkB) bs hon).2 hall ht) N (Nat.le_refl _)
    rw [if_pos hs] at this
    split at this <;> omega
  · intro hx
    -- the cell that most claim is claimed by a right one
    by_cases hmx : ∃ c, okL cellK c = true ∧ N - 1 < 2 * cntL s (heldR N F on C t i) N c
    · have e : mostH N s (heldR N F on C t i) N = ⟨true, Classical.choose hmx⟩ := by unfold mostH; rw [dif_pos hmx]
      obtain ⟨hc, hm⟩ := Classical.choose_spec hmx
      generalize Classical.choose hmx = c at e hc hm
      have hex : ∃ k, k < N ∧ k ≠ B ∧ hasC (heldR N F on C t i) k s = some c := by
        by_cases hne : ∃ k, k < N ∧ k ≠ B ∧ hasC (heldR N F on C t i) k s = some c
        · exact hne
        · exfalso
          have hcnt : ∀ k, k ≤ N → cntL s (heldR N F on C t i) k c ≤ if B < k then 1 else 0 := fun k => by
            induction k with
            | zero => intro _; simp [cntL]
            | succ k ih =>
              intro hk
              have := ih (by omega)
              rw [cntL]
              by_cases hkB : k = B
              · subst hkB
                rw [if_neg (by omega)] at this
                have h1 : ∀ (P : Prop) (inst : Decidable P), @ite Nat P inst 1 0 ≤ 1 := fun P inst => by split <;> omega
                show _ ≤ if k < k + 1 then 1 else 0
                rw [if_pos (Nat.lt_succ_self k)]
                exact Nat.le_trans (Nat.add_le_add this (h1 _ _)) (by omega)
              · rw [if_neg (fun h => hne ⟨k, by omega, hkB, h.2⟩)]
                split at this <;> split <;> omega
          have := hcnt N (Nat.le_refl _)
          split at this <;> omega
      obtain ⟨k, hk, hkB, hh⟩ := hex
      rcases (claim_right N F on C h4 h16 hF hC hi hk hs bi (hB k hkB) bs hon).1 with h | ⟨h1, h2, h3⟩
      · rw [h] at hh; cases hh
      · rw [h3] at hh
        cases hh
        exact ⟨h1, h2, e⟩
    · have e : mostH N s (heldR N F on C t i) N = hd0 := by unfold mostH; rw [dif_neg hmx]
      rw [e] at hx; cases hx
/-- all right ones agree on one vector -/
theorem agree_same (h4 : 4 ≤ N) (h16 : N ≤ 16) (hF : ∀ a ∈ F.acts, a.row.ok) (hC : ∀ t i, okL cellK (C t i) = true) (hall : ∀ t i, i < N → on t i = true) {t i j : Nat} (ht : 2 * N ≤ t) (hi : i < N) (hj : j < N) (bi : ¬ Bd N F i) (bj : ¬ Bd N F j) :
    agreeL N (heldR N F on C t i) = agreeL N (heldR N F on C t j) := by
  have hli := heldR_len N F on C (hall t i hi) hi
  have hlj := heldR_len N F on C (hall t j hj) hj
  apply List.ext_getElem?
  intro s
  by_cases hs : s < N
  · by_cases bs : Bd N F s
    · unfold agreeL
      rw [if_pos (by omega), if_pos (by omega), List.getElem?_map, List.getElem?_map, hli, hlj]
      simp only [Int.toNat_natCast, Nat.min_self]
      rw [List.getElem?_range hs]
      show some (mostH N s (heldR N F on C t i) N) = some (mostH N s (heldR N F on C t j) N)
      rw [mostF_eq, mostF_eq]
      congr 2
      funext c
      refine cnt_eq (B := s) c (fun k hk hks => ?_) N (Nat.le_refl _)
      have bk : ¬ Bd N F k := fun h => hks (h.1.symm.trans bs.1)
      obtain ⟨r, hr, h1, -⟩ := heldR_at N F on C h4 hF hC hk hi bk bi (hall t i hi)
      obtain ⟨r', hr', h1', -⟩ := heldR_at N F on C h4 hF hC hk hj bk bj (hall t j hj)
      have e := (h1 hall).trans (h1' hall).symm
      unfold hasC
      rw [hr, hr', e]
    · obtain ⟨x, hx, h1, -⟩ := agree_right N F on C h4 h16 hF hC hi hs bi bs (hall t i hi)
      obtain ⟨y, hy, h2, -⟩ := agree_right N F on C h4 h16 hF hC hj hs bj bs (hall t j hj)
      rw [hx, hy, h1 hall ht, h2 hall ht]
  · have hl : ∀ l : List Rw, (agreeL N l)[s]? = none := fun l => by
      refine List.getElem?_eq_none ?_
      unfold agreeL
      split
      · simp; omega
      · simp
    rw [hl, hl]
theorem agreeL_len (h4 : 4 ≤ N) (h16 : N ≤ 16) (l : List Rw) : (agreeL N l).length = N := by
  unfold agreeL
  rw [if_pos (by omega)]
  simp
end
end Go.Proofs.Ytbdklfcgcmdgaaa
