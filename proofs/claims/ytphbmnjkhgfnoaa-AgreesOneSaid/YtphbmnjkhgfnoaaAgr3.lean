/-
  agrees.Agree, agrees.Table.
-/
import Derived.Test.YtphbmnjkhgfnoaaAgr2
import Derived.Test.YtphbmnjkhgfnoaaWrdI
namespace Go.Proofs.Ytphbmnjkhgfnoaa
open Go.RowKit
set_option linter.unusedVariables false
set_option linter.unusedSimpArgs false

/-- a vector that is a whole block -/
def VecV (B : Nat) (L : List Hd) (v : Value) (w : World) : Prop := (∃ g, v = .slice (some ⟨g, 0, none⟩) L.length L.length ∧ Blk w g 60 (flatH L).toArray ∧ B ≤ g) ∨ (L = [] ∧ v = .slice none 0 0)
/-- a vector, in new memory -/
def VecPost (L : List Hd) (w : World) (e : Ending) (w' : World) : Prop := (∃ v, e = .returned v ∧ VecV w.heap.size L v w') ∧ Below w.heap.size w w'
theorem VecV.rd {B : Nat} {L : List Hd} {v : Value} {w : World} (hL : ∀ x ∈ L, x.ok) (h : VecV B L v w) : ∃ a, v = .slice a L.length L.length ∧ RdHs (B ≤ ·) w a L.length L := by
  rcases h with ⟨g, rfl, hb, hg⟩ | ⟨rfl, rfl⟩
  · have h3 : Blk w g 60 (flatH L ++ []).toArray := by simpa using hb
    exact ⟨_, rfl, (RdHs.of_blk h3 hL).mono (fun b _ h => by omega)⟩
  · exact ⟨none, rfl, ⟨rfl, by simp, by simp⟩⟩
theorem VecV.keep {B : Nat} {L : List Hd} {v : Value} {w w' : World} (h : VecV B L v w) (hk : ∀ b, B ≤ b → b < w.heap.size → w'.heap[b]? = w.heap[b]?) : VecV B L v w' := by
  rcases h with ⟨g, rfl, hb, hg⟩ | ⟨rfl, rfl⟩
  · exact .inl ⟨g, rfl, (hk g hg hb.lt).trans hb, hg⟩
  · exact .inr ⟨rfl, rfl⟩
open Classical in
noncomputable def mostH (n s : Nat) (l : List Rw) (M : Nat) : Hd := if h : ∃ c, okL cellK c = true ∧ n - 1 < 2 * cntL s l M c then ⟨true, Classical.choose h⟩ else hd0
theorem MostP.eq {n s : Nat} {l : List Rw} {M : Nat} (hs : s < n) (hM : M ≤ n) {h : Hd} (p : MostP n s l M h) : h = mostH n s l M := by
  refine p.unique hs hM ?_
  unfold mostH
  split
  · rename_i hx
    exact .inl ⟨_, rfl, (Classical.choose_spec hx).1, (Classical.choose_spec hx).2⟩
  · rename_i hx
    refine .inr ⟨rfl, ?_⟩
    rcases p with ⟨c, -, h1, h2⟩ | ⟨-, h1⟩
    · exact absurd ⟨c, h1, h2⟩ hx
    · exact h1
theorem mostH_ok (n s : Nat) (l : List Rw) (M : Nat) : (mostH n s l M).ok := by
  unfold mostH
  split
  · rename_i hx; exact (Classical.choose_spec hx).1
  · exact hd0_ok
noncomputable def agreeL (n : Int) (l : List Rw) : List Hd := if 4 ≤ n ∧ n ≤ 16 then (List.range n.toNat).map (fun s => mostH n.toNat s l (min n.toNat l.length)) else []
def tabL (l : List Rw) : List Hd := l.map fun r => ⟨r.is, r.c⟩
theorem agreeL_ok {n : Int} {l : List Rw} : ∀ x ∈ agreeL n l, x.ok := fun x hx => by
  unfold agreeL at hx
  split at hx
  · obtain ⟨s, -, rfl⟩ := List.mem_map.1 hx
    exact mostH_ok _ _ _ _
  · cases hx
theorem tabL_ok {l : List Rw} (h : ∀ r ∈ l, r.ok) : ∀ x ∈ tabL l, x.ok := fun x hx => by
  obtain ⟨r, hr, rfl⟩ := List.mem_map.1 hx
  exact (h r hr).1
/-- the first k of a vector of N -/
def parH (N k : Nat) (L : List Hd) : List Hd := L.take k ++ List.replicate (N - k) hd0
theorem parH_len {N k : Nat} {L : List Hd} (h1 : k ≤ N) (h2 : k ≤ L.length) : (parH N k L).length = N := by simp [parH]; omega
theorem parH_ok {N k : Nat} {L : List Hd} (h : ∀ x ∈ L, x.ok) : ∀ x ∈ parH N k L, x.ok := fun x hx => by
  rcases List.mem_append.1 hx with hx | hx
  · exact h x (List.mem_of_mem_take hx)
  · rw [List.eq_of_mem_replicate hx]; exact hd0_ok
theorem parH_set {N k : Nat} {L : List Hd} {x : Hd} (h1 : k < N) (hx : L[k]? = some x) : (parH N k L).set k x = parH N (k + 1) L := by
  have h2 : k < L.length := (List.getElem?_eq_some_iff.1 hx).1
  unfold parH
  rw [List.take_add_one, hx]
  have e : N - k = (N - (k + 1)) + 1 := by omega
  rw [e, List.replicate_succ, List.set_append, if_neg (by simp; omega)]
  have e2 : k - (L.take k).length = 0 := by simp; omega
  rw [e2]
  simp
theorem parH_end (L : List Hd) : parH L.length L.length L = L := by simp [parH]
/-- what a round knows -/
structure PV (w : World) (N k : Nat) (L : List Hd) (wr : World) : Prop where
  blk : Blk wr w.heap.size 60 (flatH (parH N k L)).toArray
  bel : Below w.heap.size w wr
theorem PV.start (w : World) (N : Nat) (L : List Hd) : PV w N 0 L (w.alloc (.cells (zrep heldZ N).toArray 60)) := by
  refine ⟨?_, (Below.refl _ _).alloc (Nat.le_refl _) _⟩
  rw [flatH_rep]
  have : parH N 0 L = List.replicate N hd0 := by simp [parH]
  rw [this]
  exact Blk.new _ _ _
theorem PV.step {w : World} {N k : Nat} {L : List Hd} {wr w1 : World} (h : PV w N k L wr) (hb : Below wr.heap.size wr w1) (hL : ∀ x ∈ L, x.ok) (hN : N = L.length) {x : Hd} (hx : L[k]? = some x) :
    canPut w1 ⟨w.heap.size, k * 56, none⟩ 56 = true ∧ PV w N (k + 1) L (putRow w1 ⟨w.heap.size, k * 56, none⟩ x.vals) := by
  have h2 : k < L.length := (List.getElem?_eq_some_iff.1 hx).1
  have hlen := len_flatH (parH_ok (N := N) (k := k) hL)
  rw [parH_len (by omega) (by omega)] at hlen
  have hbk := h.blk.below hb h.blk.lt
  have hfs := flatH_set (parH_ok (N := N) (k := k) hL) (k := k) (by rw [parH_len (by omega) (by omega)]; omega) x (hL x (List.mem_of_getElem? hx))
  rw [parH_set (by omega) hx] at hfs
  refine ⟨?_, ?_, Below.put (h.bel.trans (hb.mono h.bel.size)) (p := ⟨w.heap.size, k * 56, none⟩) (Nat.le_refl _) x.vals⟩
  · obtain ⟨-, -, -, -, h5⟩ := hbk.rules
    rw [h5, hlen]
    have : (k + 1) * 56 ≤ N * 56 := Nat.mul_le_mul_right _ (by omega)
    simp; omega
  · have := hbk.put (k * 56) x.vals
    rw [← hfs]; exact this
theorem PV.post {w : World} {L : List Hd} {wr : World} (h : PV w L.length L.length L wr) : VecPost L w (.returned (.slice (some ⟨w.heap.size, 0, none⟩) L.length L.length)) wr := by
  obtain ⟨h1, h2⟩ := h
  rw [parH_end] at h1
  exact ⟨⟨_, rfl, .inl ⟨_, rfl, h1, Nat.le_refl _⟩⟩, h2⟩

set_option maxRecDepth 100000 in
set_option maxHeartbeats 2000000 in
theorem agree_any (S : Nat → Prop) (n : Int) (a : Option Addr) (len cap : Nat) (l : List Rw) (w : World) (hrd : RdRs S w a len l) (hm1 : len ≤ cap) (hm2 : cap ≤ maxLen) :
    Calls Try.prog 19 #[.int .i64 n, .slice a len cap] w (VecPost (agreeL n l) w) := by
  have hll : l.length = len := hrd.1
  by_cases hr : 4 ≤ n ∧ n ≤ 16
  · obtain ⟨N, rfl⟩ : ∃ N : Nat, n = N := ⟨n.toNat, by omega⟩
    have hA : agreeL N l = (List.range N).map (fun s => mostH N s l (min N len)) := by
      unfold agreeL
      rw [if_pos hr]; simp [hll]
    have hAo := agreeL_ok (n := N) (l := l)
    generalize agreeL N l = L at hA hAo ⊢
    have hLl : N = L.length := by rw [hA]; simp
    have hat : ∀ k, k < N → L[k]? = some (mostH N k l (min N len)) := fun k hk => by rw [hA]; simp [hk]
    have hN4 : 4 ≤ N := by omega
    have hN16 : N ≤ 16 := by omega
    have hN1 : N ≤ 1048576 := by omega
    have hb1 : ¬ (N : Int) < 4 := by omega
    have hb2 : ¬ 16 < (N : Int) := by omega
    have hst := PV.start w N L
    have HH := Lib.hid (And.intro hrd (And.intro hAo (And.intro hLl hat)))
    clear hrd hA hAo hLl hat hr
    go_enter Try.func19, Try.ntmps19
    go_upto_region 5 with fail
    generalize w.alloc (.cells (zrep heldZ N).toArray 60) = w1 at hst ⊢
    have H1 := Lib.hid hst
    clear hst
    go_loopw [17] (fun i wr => ∃ k : Nat, k ≤ N ∧ i = .int .i64 k ∧ PV w N k L wr) (fun i _ => N - (intOf i).toNat)
    case atStart => exact ⟨0, by omega, rfl, H1.out⟩
    case round =>
      obtain ⟨k, hk, rfl, hr⟩ := hrel
      by_cases hlt : k < N
      · have hcall := most_any S N k ⟨hN4, hN16⟩ hlt a len cap l wr (HH.out.1.below hr.bel (fun _ _ h => h)) hm1 hm2
        have HC := Lib.hid (And.intro hcall hr)
        clear hcall hr
        go_wp2_with fail
        refine HC.out.1.mono ?_
        rintro e w2 ⟨x, rfl, hx, hb2'⟩
        have hxe := hx.eq hlt (Nat.min_le_left _ _)
        have hxo : x.ok := by rw [hxe]; exact mostH_ok _ _ _ _
        have hxl := Hd.vals_len hxo
        have hxc := Hd.cell1 hxo
        obtain ⟨p1, p2⟩ := HC.out.2.step hb2' HH.out.2.1 HH.out.2.2.1 (x := x) (by rw [hxe]; exact HH.out.2.2.2 k hlt)
        have H2 := Lib.hid p2
        clear p2 hx hxe hxo hb2'
        go_wp2
        exact ⟨⟨k + 1, by omega, by go_num, H2.out⟩, by simp [intOf]; omega⟩
      · have hkN : k = N := by omega
        subst hkN
        have H2 := Lib.hid hr
        clear hr
        go_wp2
        go_ret
        have h1 := H2.out
        rw [HH.out.2.2.1] at h1 ⊢
        exact h1.post
  · have hA : agreeL n l = [] := by unfold agreeL; rw [if_neg hr]
    rw [hA]
    have HF := Lib.hid (show VecPost [] w (.returned (.slice none 0 0)) w from ⟨⟨_, rfl, .inr ⟨rfl, rfl⟩⟩, Below.refl _ _⟩)
    by_cases h4 : n < 4
    · go_enter Try.func19, Try.ntmps19
      go_wp2
      go_ret
      exact HF.out
    · have h16 : 16 < n := by omega
      go_enter Try.func19, Try.ntmps19
      go_wp2
      go_ret
      exact HF.out

set_option maxRecDepth 100000 in
set_option maxHeartbeats 2000000 in
theorem table_any (S : Nat → Prop) (a : Option Addr) (len cap : Nat) (l : List Rw) (w : World) (hrd : RdRs S w a len l) (hm1 : len ≤ cap) (hm2 : cap ≤ maxLen) (hsm : len ≤ 100000) :
    Calls Try.prog 18 #[.slice a len cap] w (VecPost (tabL l) w) := by
  have hll : l.length = len := hrd.1
  have hTo := tabL_ok hrd.2.1
  have hTl : len = (tabL l).length := by simp [tabL, hll]
  have hat : ∀ (k : Nat) (r : Rw), l[k]? = some r → (tabL l)[k]? = some ⟨r.is, r.c⟩ := fun k r hk => by simp [tabL, hk]
  generalize tabL l = L at hTo hTl hat ⊢
  have hN1 : len ≤ 1048576 := by omega
  have hst := PV.start w len L
  have HH := Lib.hid (And.intro hrd (And.intro hTo (And.intro hTl hat)))
  clear hrd hTo hTl hat
  unfold maxLen at hm2
  go_enter Try.func18, Try.ntmps18
  go_upto_region 3 with fail
  generalize w.alloc (.cells (zrep heldZ len).toArray 60) = w1 at hst ⊢
  have H1 := Lib.hid hst
  clear hst
  go_loopw [11] (fun i wr => ∃ k : Nat, k ≤ len ∧ i = .int .i64 k ∧ PV w len k L wr) (fun i _ => len - (intOf i).toNat)
  case atStart => exact ⟨0, by omega, rfl, H1.out⟩
  case round =>
    obtain ⟨k, hk, rfl, hr⟩ := hrel
    by_cases hlt : k < len
    · obtain ⟨b, off, x, m, cp, r, rfl, hS, hbw, hv, hok, hrl, hrc1, hr1, hr2, -, -, hr5, hr6, hr7⟩ := HH.out.1.at_ k hlt
      have d := row_below hr.bel (p := ⟨b, off + k * 57, none⟩) hbw 57
      have d1 := d.1.trans hr1
      have d2 : rowOf wr ⟨b, off + k * 57, none⟩ 57 = r.vals (.slice x m cp) := d.2.trans hr2
      have hvl := Rw.len hok (.slice x m cp)
      have hvc : (r.vals (.slice x m cp)).all cell1 = true := RowR.cell1 (S := S) (w := w) ⟨x, m, cp, rfl, hr5, hr6, hr7⟩ hok
      have HR := Lib.hid (And.intro hr hv)
      clear d hr1 hr2 hr5 hr hv hrl
      go_upto_region 5 with fail
      have hB2 : Below wr.heap.size wr (wr.alloc (.cells (r.vals (.slice x m cp)).toArray 62)) := (Below.refl _ _).alloc (Nat.le_refl _) _
      have hbk : Blk (wr.alloc (.cells (r.vals (.slice x m cp)).toArray 62)) wr.heap.size 62 (r.vals (.slice x m cp)).toArray := Blk.new _ _ _
      generalize wr.alloc (.cells (r.vals (.slice x m cp)).toArray 62) = w2 at hB2 hbk ⊢
      obtain ⟨f0, f1, f2, -⟩ := blk_row hbk hok
      have hcl : r.c.length = 55 := (okL_len hok.1).trans len_cellK
      have hyc : (Value.bool r.is :: r.c).all cell1 = true := by simp [hrc1, cell1]
      have hyl : (Value.bool r.is :: r.c).length = 56 := by simp [hcl]
      obtain ⟨p1, p2⟩ := HR.out.1.step hB2 HH.out.2.1 HH.out.2.2.1 (HH.out.2.2.2 k r HR.out.2)
      have H2 := Lib.hid p2
      clear p2 hB2 hbk
      go_wp2
      exact ⟨⟨k + 1, by omega, by go_num, H2.out⟩, by simp [intOf]; omega⟩
    · have hkN : k = len := by omega
      subst hkN
      have H2 := Lib.hid hr
      clear hr
      go_wp2
      go_ret
      have h1 := H2.out
      rw [HH.out.2.2.1] at h1 ⊢
      exact h1.post
end Go.Proofs.Ytphbmnjkhgfnoaa
