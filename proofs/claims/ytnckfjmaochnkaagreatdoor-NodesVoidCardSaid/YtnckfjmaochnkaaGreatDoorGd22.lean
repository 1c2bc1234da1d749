/-
  agrees.Agree, agrees.Table. The middle of a list of integers, by sorting and by counting. Plain lemmas, no program in sight. What a vector's common age is; the laws that it obeys. No program in sight.
-/
import Derived.Test.YtnckfjmaochnkaaGreatDoorGd21
import Derived.Test.YtnckfjmaochnkaaGreatDoorGd16
import Derived.Test.YtnckfjmaochnkaaGreatDoorGd01
import Derived.Test.YtnckfjmaochnkaaGreatDoorGd02
namespace Go.Proofs.YtnckfjmaochnkaaGreatDoor
open Go.RowKit
set_option linter.unusedVariables false
set_option linter.unusedSimpArgs false

/-- a vector that is a whole block -/
def VecV (B : Nat) (L : List Hd) (v : Value) (w : World) : Prop := (∃ g, v = .slice (some ⟨g, 0, none⟩) L.length L.length ∧ Blk w g 152 (flatH L).toArray ∧ B ≤ g) ∨ (L = [] ∧ v = .slice none 0 0)
/-- a vector, in new memory -/
def VecPost (L : List Hd) (w : World) (e : Ending) (w' : World) : Prop := (∃ v, e = .returned v ∧ VecV w.heap.size L v w') ∧ Below w.heap.size w w'
theorem VecV.rd {B : Nat} {L : List Hd} {v : Value} {w : World} (hL : ∀ x ∈ L, x.ok) (h : VecV B L v w) : ∃ a, v = .slice a L.length L.length ∧ RdHs (B ≤ ·) w a L.length L := by
  rcases h with ⟨g, rfl, hb, hg⟩ | ⟨rfl, rfl⟩
  · have h3 : Blk w g 152 (flatH L ++ []).toArray := by simpa using hb
    exact ⟨_, rfl, (RdHs.of_blk h3 hL).mono (fun b _ h => by omega)⟩
  · exact ⟨none, rfl, ⟨rfl, by simp, by simp⟩⟩
theorem VecV.keep {B : Nat} {L : List Hd} {v : Value} {w w' : World} (h : VecV B L v w) (hk : ∀ b, B ≤ b → b < w.heap.size → w'.heap[b]? = w.heap[b]?) : VecV B L v w' := by
  rcases h with ⟨g, rfl, hb, hg⟩ | ⟨rfl, rfl⟩
  · exact .inl ⟨g, rfl, (hk g hg hb.lt).trans hb, hg⟩
  · exact .inr ⟨rfl, rfl⟩
open Classical in
noncomputable def mostH (n s : Nat) (l : List Rw) (M : Nat) : Hd := if h : ∃ c, okL cellK c = true ∧ n - 1 < 2 * cntL s l M c then ⟨true, Classical.choose h⟩ else hd0
theorem MostP.eq {n s : Nat} {l : List Rw} {M : Nat} (hs : s < n) (hM : M ≤ n) {h : Hd} (p : MostP n s l M h) : h = mostH n s l M := by
  refine p.unique hs hM ?_
  unfold mostH
  split
  · rename_i hx
    exact .inl ⟨_, rfl, (Classical.choose_spec hx).1, (Classical.choose_spec hx).2⟩
  · rename_i hx
    refine .inr ⟨rfl, ?_⟩
    rcases p with ⟨c, -, h1, h2⟩ | ⟨-, h1⟩
    · exact absurd ⟨c, h1, h2⟩ hx
    · exact h1
theorem mostH_ok (n s : Nat) (l : List Rw) (M : Nat) : (mostH n s l M).ok := by
  unfold mostH
  split
  · rename_i hx; exact (Classical.choose_spec hx).1
  · exact hd0_ok
noncomputable def agreeL (n : Int) (l : List Rw) : List Hd := if 4 ≤ n ∧ n ≤ 16 then (List.range n.toNat).map (fun s => mostH n.toNat s l (min n.toNat l.length)) else []
def tabL (l : List Rw) : List Hd := l.map fun r => ⟨r.is, r.c⟩
theorem agreeL_ok {n : Int} {l : List Rw} : ∀ x ∈ agreeL n l, x.ok := fun x hx => by
  unfold agreeL at hx
  split at hx
  · obtain ⟨s, -, rfl⟩ := List.mem_map.1 hx
    exact mostH_ok _ _ _ _
  · cases hx
theorem tabL_ok {l : List Rw} (h : ∀ r ∈ l, r.ok) : ∀ x ∈ tabL l, x.ok := fun x hx => by
  obtain ⟨r, hr, rfl⟩ := List.mem_map.1 hx
  exact (h r hr).1
/-- the first k of a vector of N -/
def parH (N k : Nat) (L : List Hd) : List Hd := L.take k ++ List.replicate (N - k) hd0
theorem parH_len {N k : Nat} {L : List Hd} (h1 : k ≤ N) (h2 : k ≤ L.length) : (parH N k L).length = N := by simp [parH]; omega
theorem parH_ok {N k : Nat} {L : List Hd} (h : ∀ x ∈ L, x.ok) : ∀ x ∈ parH N k L, x.ok := fun x hx => by
  rcases List.mem_append.1 hx with hx | hx
  · exact h x (List.mem_of_mem_take hx)
  · rw [List.eq_of_mem_replicate hx]; exact hd0_ok
theorem parH_set {N k : Nat} {L : List Hd} {x : Hd} (h1 : k < N) (hx : L[k]? = some x) : (parH N k L).set k x = parH N (k + 1) L := by
  have h2 : k < L.length := (List.getElem?_eq_some_iff.1 hx).1
  unfold parH
  rw [List.take_add_one, hx]
  have e : N - k = (N - (k + 1)) + 1 := by omega
  rw [e, List.replicate_succ, List.set_append, if_neg (by simp; omega)]
  have e2 : k - (L.take k).length = 0 := by simp; omega
  rw [e2]
  simp
theorem parH_end (L : List Hd) : parH L.length L.length L = L := by simp [parH]
/-- what a round knows -/
structure PV (w : World) (N k : Nat) (L : List Hd) (wr : World) : Prop where
  blk : Blk wr w.heap.size 152 (flatH (parH N k L)).toArray
  bel : Below w.heap.size w wr
theorem PV.start (w : World) (N : Nat) (L : List Hd) : PV w N 0 L (w.alloc (.cells (zrep heldZ N).toArray 152)) := by
  refine ⟨?_, (Below.refl _ _).alloc (Nat.le_refl _) _⟩
  rw [flatH_rep]
  have : parH N 0 L = List.replicate N hd0 := by simp [parH]
  rw [this]
  exact Blk.new _ _ _
theorem PV.step {w : World} {N k : Nat} {L : List Hd} {wr w1 : World} (h : PV w N k L wr) (hb : Below wr.heap.size wr w1) (hL : ∀ x ∈ L, x.ok) (hN : N = L.length) {x : Hd} (hx : L[k]? = some x) :
    canPut w1 ⟨w.heap.size, k * 56, none⟩ 56 = true ∧ PV w N (k + 1) L (putRow w1 ⟨w.heap.size, k * 56, none⟩ x.vals) := by
  have h2 : k < L.length := (List.getElem?_eq_some_iff.1 hx).1
  have hlen := len_flatH (parH_ok (N := N) (k := k) hL)
  rw [parH_len (by omega) (by omega)] at hlen
  have hbk := h.blk.below hb h.blk.lt
  have hfs := flatH_set (parH_ok (N := N) (k := k) hL) (k := k) (by rw [parH_len (by omega) (by omega)]; omega) x (hL x (List.mem_of_getElem? hx))
  rw [parH_set (by omega) hx] at hfs
  refine ⟨?_, ?_, Below.put (h.bel.trans (hb.mono h.bel.size)) (p := ⟨w.heap.size, k * 56, none⟩) (Nat.le_refl _) x.vals⟩
  · obtain ⟨-, -, -, -, h5⟩ := hbk.rules
    rw [h5, hlen]
    have : (k + 1) * 56 ≤ N * 56 := Nat.mul_le_mul_right _ (by omega)
    simp; omega
  · have := hbk.put (k * 56) x.vals
    rw [← hfs]; exact this
theorem PV.post {w : World} {L : List Hd} {wr : World} (h : PV w L.length L.length L wr) : VecPost L w (.returned (.slice (some ⟨w.heap.size, 0, none⟩) L.length L.length)) wr := by
  obtain ⟨h1, h2⟩ := h
  rw [parH_end] at h1
  exact ⟨⟨_, rfl, .inl ⟨_, rfl, h1, Nat.le_refl _⟩⟩, h2⟩

set_option maxRecDepth 100000 in
set_option maxHeartbeats 2000000 in
theorem agree_any (S : Nat → Prop) (n : Int) (a : Option Addr) (len cap : Nat) (l : List Rw) (w : World) (hrd : RdRs S w a len l) (hm1 : len ≤ cap) (hm2 : cap ≤ maxLen) :
    Calls Tryz.prog 17 #[.int .i64 n, .slice a len cap] w (VecPost (agreeL n l) w) := by
  have hll : l.length = len := hrd.1
  by_cases hr : 4 ≤ n ∧ n ≤ 16
  · obtain ⟨N, rfl⟩ : ∃ N : Nat, n = N := ⟨n.toNat, by omega⟩
    have hA : agreeL N l = (List.range N).map (fun s => mostH N s l (min N len)) := by
      unfold agreeL
      rw [if_pos hr]; simp [hll]
    have hAo := agreeL_ok (n := N) (l := l)
    generalize agreeL N l = L at hA hAo ⊢
    have hLl : N = L.length := by rw [hA]; simp
    have hat : ∀ k, k < N → L[k]? = some (mostH N k l (min N len)) := fun k hk => by rw [hA]; simp [hk]
    have hN4 : 4 ≤ N := by omega
    have hN16 : N ≤ 16 := by omega
    have hN1 : N ≤ 1048576 := by omega
    have hb1 : ¬ (N : Int) < 4 := by omega
    have hb2 : ¬ 16 < (N : Int) := by omega
    have hst := PV.start w N L
    have HH := Lib.hid (And.intro hrd (And.intro hAo (And.intro hLl hat)))
    clear hrd hA hAo hLl hat hr
    go_enter Tryz.func17, Tryz.ntmps17
    go_upto_region 5 with fail
    generalize w.alloc (.cells (zrep heldZ N).toArray 152) = w1 at hst ⊢
    have H1 := Lib.hid hst
    clear hst
    go_loopw [17] (fun i wr => ∃ k : Nat, k ≤ N ∧ i = .int .i64 k ∧ PV w N k L wr) (fun i _ => N - (intOf i).toNat)
    case atStart => exact ⟨0, by omega, rfl, H1.out⟩
    case round =>
      obtain ⟨k, hk, rfl, hr⟩ := hrel
      by_cases hlt : k < N
      · have hcall := most_any S N k ⟨hN4, hN16⟩ hlt a len cap l wr (HH.out.1.below hr.bel (fun _ _ h => h)) hm1 hm2
        have HC := Lib.hid (And.intro hcall hr)
        clear hcall hr
        go_wp2_with fail
        refine HC.out.1.mono ?_
        rintro e w2 ⟨x, rfl, hx, hb2'⟩
        have hxe := hx.eq hlt (Nat.min_le_left _ _)
        have hxo : x.ok := by rw [hxe]; exact mostH_ok _ _ _ _
        have hxl := Hd.vals_len hxo
        have hxc := Hd.cell1 hxo
        obtain ⟨p1, p2⟩ := HC.out.2.step hb2' HH.out.2.1 HH.out.2.2.1 (x := x) (by rw [hxe]; exact HH.out.2.2.2 k hlt)
        have H2 := Lib.hid p2
        clear p2 hx hxe hxo hb2'
        go_wp2
        exact ⟨⟨k + 1, by omega, by go_num, H2.out⟩, by simp [intOf]; omega⟩
      · have hkN : k = N := by omega
        subst hkN
        have H2 := Lib.hid hr
        clear hr
        go_wp2
        go_ret
        have h1 := H2.out
        rw [HH.out.2.2.1] at h1 ⊢
        exact h1.post
  · have hA : agreeL n l = [] := by unfold agreeL; rw [if_neg hr]
    rw [hA]
    have HF := Lib.hid (show VecPost [] w (.returned (.slice none 0 0)) w from ⟨⟨_, rfl, .inr ⟨rfl, rfl⟩⟩, Below.refl _ _⟩)
    by_cases h4 : n < 4
    · go_enter Tryz.func17, Tryz.ntmps17
      go_wp2
      go_ret
      exact HF.out
    · have h16 : 16 < n := by omega
      go_enter Tryz.func17, Tryz.ntmps17
      go_wp2
      go_ret
      exact HF.out

set_option maxRecDepth 100000 in
set_option maxHeartbeats 2000000 in
theorem table_any (S : Nat → Prop) (a : Option Addr) (len cap : Nat) (l : List Rw) (w : World) (hrd : RdRs S w a len l) (hm1 : len ≤ cap) (hm2 : cap ≤ maxLen) (hsm : len ≤ 100000) :
    Calls Tryz.prog 26 #[.slice a len cap] w (VecPost (tabL l) w) := by
  have hll : l.length = len := hrd.1
  have hTo := tabL_ok hrd.2.1
  have hTl : len = (tabL l).length := by simp [tabL, hll]
  have hat : ∀ (k : Nat) (r : Rw), l[k]? = some r → (tabL l)[k]? = some ⟨r.is, r.c⟩ := fun k r hk => by simp [tabL, hk]
  generalize tabL l = L at hTo hTl hat ⊢
  have hN1 : len ≤ 1048576 := by omega
  have hst := PV.start w len L
  have HH := Lib.hid (And.intro hrd (And.intro hTo (And.intro hTl hat)))
  clear hrd hTo hTl hat
  unfold maxLen at hm2
  go_enter Tryz.func26, Tryz.ntmps26
  go_upto_region 3 with fail
  generalize w.alloc (.cells (zrep heldZ len).toArray 152) = w1 at hst ⊢
  have H1 := Lib.hid hst
  clear hst
  go_loopw [11] (fun i wr => ∃ k : Nat, k ≤ len ∧ i = .int .i64 k ∧ PV w len k L wr) (fun i _ => len - (intOf i).toNat)
  case atStart => exact ⟨0, by omega, rfl, H1.out⟩
  case round =>
    obtain ⟨k, hk, rfl, hr⟩ := hrel
    by_cases hlt : k < len
    · obtain ⟨b, off, x, m, cp, r, rfl, hS, hbw, hv, hok, hrl, hrc1, hr1, hr2, -, -, hr5, hr6, hr7⟩ := HH.out.1.at_ k hlt
      have d := row_below hr.bel (p := ⟨b, off + k * 57, none⟩) hbw 57
      have d1 := d.1.trans hr1
      have d2 : rowOf wr ⟨b, off + k * 57, none⟩ 57 = r.vals (.slice x m cp) := d.2.trans hr2
      have hvl := Rw.len hok (.slice x m cp)
      have hvc : (r.vals (.slice x m cp)).all cell1 = true := RowR.cell1 (S := S) (w := w) ⟨x, m, cp, rfl, hr5, hr6, hr7⟩ hok
      have HR := Lib.hid (And.intro hr hv)
      clear d hr1 hr2 hr5 hr hv hrl
      go_upto_region 5 with fail
      have hB2 : Below wr.heap.size wr (wr.alloc (.cells (r.vals (.slice x m cp)).toArray 118)) := (Below.refl _ _).alloc (Nat.le_refl _) _
      have hbk : Blk (wr.alloc (.cells (r.vals (.slice x m cp)).toArray 118)) wr.heap.size 118 (r.vals (.slice x m cp)).toArray := Blk.new _ _ _
      generalize wr.alloc (.cells (r.vals (.slice x m cp)).toArray 118) = w2 at hB2 hbk ⊢
      obtain ⟨f0, f1, f2, -⟩ := blk_row hbk hok
      have hcl : r.c.length = 55 := (okL_len hok.1).trans len_cellK
      have hyc : (Value.bool r.is :: r.c).all cell1 = true := by simp [hrc1, cell1]
      have hyl : (Value.bool r.is :: r.c).length = 56 := by simp [hcl]
      obtain ⟨p1, p2⟩ := HR.out.1.step hB2 HH.out.2.1 HH.out.2.2.1 (HH.out.2.2.2 k r HR.out.2)
      have H2 := Lib.hid p2
      clear p2 hB2 hbk
      go_wp2
      exact ⟨⟨k + 1, by omega, by go_num, H2.out⟩, by simp [intOf]; omega⟩
    · have hkN : k = len := by omega
      subst hkN
      have H2 := Lib.hid hr
      clear hr
      go_wp2
      go_ret
      have h1 := H2.out
      rw [HH.out.2.2.1] at h1 ⊢
      exact h1.post
end Go.Proofs.YtnckfjmaochnkaaGreatDoor
namespace Go.Proofs.YtnckfjmaochnkaaGreatDoor
set_option linter.unusedVariables false
set_option linter.unusedSimpArgs false

def srt (l : List Int) : List Int := l.mergeSort fun x y => decide (x ≤ y)
theorem srt_perm (l : List Int) : (srt l).Perm l := List.mergeSort_perm _ _
theorem srt_len (l : List Int) : (srt l).length = l.length := (srt_perm l).length_eq
theorem srt_sorted (l : List Int) : (srt l).Pairwise (· ≤ ·) := by
  have := List.pairwise_mergeSort (le := fun x y : Int => decide (x ≤ y)) (fun a b c h1 h2 => by simp at *; omega) (fun a b => by simp; omega) l
  exact this.imp fun h => by simpa using h
def medI (l : List Int) : Int := (srt l).getD ((l.length - 1) / 2) 0
def lessN (l : List Int) (x : Int) : Nat := l.countP fun y => decide (y < x)
def mostN (l : List Int) (x : Int) : Nat := l.countP fun y => decide (y ≤ x)
theorem lessN_perm {l l' : List Int} (h : l.Perm l') (x : Int) : lessN l x = lessN l' x := h.countP_eq _
theorem mostN_perm {l l' : List Int} (h : l.Perm l') (x : Int) : mostN l x = mostN l' x := h.countP_eq _
theorem mostN_eq (l : List Int) (x : Int) : mostN l x = lessN l x + l.countP fun y => decide (y = x) := by
  unfold mostN lessN
  induction l with
  | nil => rfl
  | cons y l ih =>
    simp only [List.countP_cons, ih]
    by_cases h1 : y < x
    · have h2 : y ≤ x := by omega
      have h3 : ¬ y = x := by omega
      simp [h1, h2, h3]; omega
    · by_cases h3 : y = x
      · have h2 : y ≤ x := by omega
        simp [h1, h2, h3]; omega
      · have h2 : ¬ y ≤ x := by omega
        simp [h1, h2, h3]
theorem mostN_le_lessN (l : List Int) {x y : Int} (h : x < y) : mostN l x ≤ lessN l y := by
  unfold mostN lessN
  exact List.countP_mono_left fun z _ hz => by simp at *; omega
theorem sorted_at {s : List Int} (hs : s.Pairwise (· ≤ ·)) {i : Nat} {m : Int} (hi : s[i]? = some m) : lessN s m ≤ i ∧ i < mostN s m := by
  obtain ⟨hlt, he⟩ := List.getElem?_eq_some_iff.1 hi
  rw [List.pairwise_iff_getElem] at hs
  constructor
  · unfold lessN
    rw [← List.take_append_drop i s, List.countP_append]
    have h0 : (s.drop i).countP (fun y => decide (y < m)) = 0 := by
      rw [List.countP_eq_zero]
      intro a ha
      obtain ⟨j, hj, rfl⟩ := List.getElem_of_mem ha
      rw [List.getElem_drop]
      simp only [decide_eq_true_eq, Int.not_lt]
      rw [← he]
      by_cases h : j = 0
      · subst h; exact Int.le_refl _
      · exact hs i (i + j) hlt (by rw [List.length_drop] at hj; omega) (by omega)
    rw [h0]
    have := List.countP_le_length (p := fun y => decide (y < m)) (l := s.take i)
    rw [List.length_take] at this
    omega
  · unfold mostN
    have h1 : (s.take (i + 1)).countP (fun y => decide (y ≤ m)) = (s.take (i + 1)).length := by
      rw [List.countP_eq_length]
      intro a ha
      obtain ⟨j, hj, rfl⟩ := List.getElem_of_mem ha
      rw [List.getElem_take]
      rw [List.length_take] at hj
      simp only [decide_eq_true_eq]
      rw [← he]
      by_cases h : j = i
      · subst h; exact Int.le_refl _
      · exact hs j i (by omega) hlt (by omega)
    have h2 : (s.take (i + 1)).countP (fun y => decide (y ≤ m)) ≤ s.countP (fun y => decide (y ≤ m)) := (List.take_sublist _ _).countP_le
    rw [h1, List.length_take] at h2
    omega
theorem medI_at {l : List Int} (h : 0 < l.length) : (srt l)[(l.length - 1) / 2]? = some (medI l) := by
  have hl := srt_len l
  unfold medI
  rw [List.getD_eq_getElem?_getD, List.getElem?_eq_getElem (by omega)]
  rfl
theorem medI_mem {l : List Int} (h : 0 < l.length) : medI l ∈ l := (srt_perm l).mem_iff.1 (List.mem_of_getElem? (medI_at h))
theorem medI_spec {l : List Int} (h : 0 < l.length) : lessN l (medI l) ≤ (l.length - 1) / 2 ∧ (l.length - 1) / 2 < mostN l (medI l) := by
  have := sorted_at (srt_sorted l) (medI_at h)
  rwa [lessN_perm (srt_perm l), mostN_perm (srt_perm l)] at this
theorem medI_unique {l : List Int} (h : 0 < l.length) {x : Int} (h1 : lessN l x ≤ (l.length - 1) / 2) (h2 : (l.length - 1) / 2 < mostN l x) : x = medI l := by
  obtain ⟨h3, h4⟩ := medI_spec h
  rcases Int.lt_trichotomy x (medI l) with hlt | he | hgt
  · have := mostN_le_lessN l hlt; omega
  · exact he
  · have := mostN_le_lessN l hgt; omega
theorem medI_perm {l l' : List Int} (h : l.Perm l') : medI l = medI l' := by
  by_cases h0 : 0 < l.length
  · have hl := h.length_eq
    obtain ⟨h1, h2⟩ := medI_spec h0
    exact medI_unique (by omega) (by rw [← lessN_perm h, ← hl]; exact h1) (by rw [← mostN_perm h, ← hl]; exact h2)
  · have : l = [] := List.eq_nil_of_length_eq_zero (by omega)
    subst this
    rw [List.nil_perm.1 h]
end Go.Proofs.YtnckfjmaochnkaaGreatDoor
namespace Go.Proofs.YtnckfjmaochnkaaGreatDoor
set_option linter.unusedVariables false
set_option linter.unusedSimpArgs false

def okI (a : Int) : Bool := decide (0 ≤ a) && decide (a ≤ 1099511627776)
def okAge (h : Hd) : Bool := h.is && okI (ageL h.c)
def oneAge (h : Hd) : List Int := if okAge h then [ageL h.c] else []
def agesOf (L : List Hd) : List Int := L.flatMap oneAge
def commonF (n : Int) (L : List Hd) : Int := if 4 ≤ n ∧ n ≤ 16 then (if ((agesOf (L.take n.toNat)).length : Int) < n - 1 then -1 else medI (agesOf (L.take n.toNat))) else -1
theorem agesOf_nil : agesOf [] = [] := rfl
theorem agesOf_app (L M : List Hd) : agesOf (L ++ M) = agesOf L ++ agesOf M := by simp [agesOf]
theorem agesOf_succ {L : List Hd} {k : Nat} {h : Hd} (hk : L[k]? = some h) : agesOf (L.take (k + 1)) = agesOf (L.take k) ++ oneAge h := by
  rw [List.take_add_one, hk, agesOf_app]; simp [agesOf]
theorem oneAge_len (h : Hd) : (oneAge h).length ≤ 1 := by unfold oneAge; split <;> simp
theorem agesOf_len (L : List Hd) : (agesOf L).length ≤ L.length := by
  induction L with
  | nil => exact Nat.le_refl _
  | cons h L ih =>
    have := oneAge_len h
    have e : agesOf (h :: L) = oneAge h ++ agesOf L := by simp [agesOf]
    rw [e, List.length_append, List.length_cons]; omega
theorem agesOf_ok {L : List Hd} {x : Int} (h : x ∈ agesOf L) : 0 ≤ x ∧ x ≤ 1099511627776 := by
  unfold agesOf at h
  obtain ⟨y, -, hx⟩ := List.mem_flatMap.1 h
  unfold oneAge at hx
  split at hx
  · rename_i hok
    simp only [List.mem_singleton] at hx
    subst hx
    simp [okAge, okI] at hok
    exact hok.2
  · cases hx
theorem agesOf_perm {L M : List Hd} (h : L.Perm M) : (agesOf L).Perm (agesOf M) := h.flatMap_right _
theorem commonF_perm {n : Int} {L M : List Hd} (hL : L.length ≤ n.toNat) (h : L.Perm M) : commonF n L = commonF n M := by
  have hM : M.length ≤ n.toNat := by rw [← h.length_eq]; exact hL
  unfold commonF
  rw [List.take_of_length_le hL, List.take_of_length_le hM]
  have h2 := agesOf_perm h
  rw [h2.length_eq, medI_perm h2]
theorem commonF_range (n : Int) (L : List Hd) : -1 ≤ commonF n L ∧ commonF n L ≤ 1099511627776 := by
  unfold commonF
  split
  · rename_i hn
    split
    · omega
    · rename_i hl
      have := agesOf_ok (medI_mem (l := agesOf (L.take n.toNat)) (by omega))
      omega
  · omega
theorem commonF_take {n : Int} {L : List Hd} {m : Nat} (h : n.toNat ≤ m) : commonF n (L.take m) = commonF n L := by
  unfold commonF
  rw [List.take_take, Nat.min_eq_left h]

/-- ages of the first k, one aside -/
def goodL (bad : Nat) (L : List Hd) : Nat → List Int
  | 0 => []
  | k + 1 => goodL bad L k ++ (if k = bad then [] else match L[k]? with | some h => oneAge h | none => [])
theorem goodL_succ {bad : Nat} {L : List Hd} {k : Nat} {h : Hd} (hk : L[k]? = some h) : goodL bad L (k + 1) = goodL bad L k ++ (if k = bad then [] else oneAge h) := by
  rw [goodL, hk]
theorem good_perm (bad : Nat) (L : List Hd) : ∀ k, k ≤ L.length → ∃ o : List Int, o.length ≤ 1 ∧ (agesOf (L.take k)).Perm (o ++ goodL bad L k) ∧ (k ≤ bad → o = [])
  | 0, _ => ⟨[], by simp, by simp [goodL, agesOf], fun _ => rfl⟩
  | k + 1, hk => by
    obtain ⟨o, h1, h2, h3⟩ := good_perm bad L k (by omega)
    obtain ⟨h, hh⟩ : ∃ h, L[k]? = some h := ⟨_, List.getElem?_eq_getElem (by omega)⟩
    rw [agesOf_succ hh, goodL_succ hh]
    by_cases hb : k = bad
    · have := h3 (by omega)
      subst this
      rw [if_pos hb, List.append_nil]
      exact ⟨oneAge h, oneAge_len h, (h2.append_right _).trans (by rw [List.nil_append]; exact List.perm_append_comm), fun h => by omega⟩
    · rw [if_neg hb]
      exact ⟨o, h1, by rw [← List.append_assoc]; exact h2.append_right _, fun h => h3 (by omega)⟩
theorem goodL_ok {bad : Nat} {L : List Hd} : ∀ {k : Nat} {x : Int}, x ∈ goodL bad L k → 0 ≤ x ∧ x ≤ 1099511627776
  | 0, x, h => by cases h
  | k + 1, x, h => by
    rw [goodL] at h
    rcases List.mem_append.1 h with h | h
    · exact goodL_ok h
    · split at h
      · cases h
      · split at h
        · rename_i y _
          exact agesOf_ok (L := [y]) (by simpa [agesOf] using h)
        · cases h
theorem goodL_len {bad : Nat} {L : List Hd} : ∀ (k : Nat), (goodL bad L k).length ≤ if bad < k then k - 1 else k
  | 0 => by simp [goodL]
  | k + 1 => by
    have ih := goodL_len (bad := bad) (L := L) k
    rw [goodL, List.length_append]
    by_cases hb : k = bad
    · rw [if_pos hb]; simp; split at ih <;> split <;> omega
    · have : (match L[k]? with | some h => oneAge h | none => [] : List Int).length ≤ 1 := by
        split
        · exact oneAge_len _
        · simp
      generalize (match L[k]? with | some h => oneAge h | none => [] : List Int) = o at this ⊢
      rw [if_neg hb]
      by_cases h1 : bad < k
      · rw [if_pos h1] at ih; rw [if_pos (by omega)]; omega
      · rw [if_neg h1] at ih; rw [if_neg (by omega)]; omega
/-- the least, the greatest of a list; -1: there is none -/
def LeastP (G : List Int) (v : Int) : Prop := (G = [] ∧ v = -1) ∨ (v ∈ G ∧ ∀ x ∈ G, v ≤ x)
def MostAP (G : List Int) (v : Int) : Prop := (G = [] ∧ v = -1) ∨ (v ∈ G ∧ ∀ x ∈ G, x ≤ v)
theorem LeastP.push {G : List Int} {v a : Int} (h : LeastP G v) (hG : ∀ x ∈ G, 0 ≤ x) (ha : 0 ≤ a) : LeastP (G ++ [a]) (if v < 0 ∨ a < v then a else v) := by
  rcases h with ⟨rfl, rfl⟩ | ⟨h1, h2⟩
  · exact .inr ⟨by simp, by simp⟩
  · have := hG v h1
    by_cases hv : a < v
    · rw [if_pos (.inr hv)]
      exact .inr ⟨by simp, fun x hx => by
        rcases List.mem_append.1 hx with hx | hx
        · have := h2 x hx; omega
        · simp at hx; omega⟩
    · rw [if_neg (by omega)]
      exact .inr ⟨by simp [h1], fun x hx => by
        rcases List.mem_append.1 hx with hx | hx
        · exact h2 x hx
        · simp at hx; omega⟩
theorem MostAP.push {G : List Int} {v a : Int} (h : MostAP G v) (ha : 0 ≤ a) : MostAP (G ++ [a]) (max v a) := by
  rcases h with ⟨rfl, rfl⟩ | ⟨h1, h2⟩
  · exact .inr ⟨by simp; omega, by simp; omega⟩
  · by_cases hv : a ≤ v
    · rw [Int.max_eq_left hv]
      exact .inr ⟨by simp [h1], fun x hx => by
        rcases List.mem_append.1 hx with hx | hx
        · exact h2 x hx
        · simp at hx; omega⟩
    · rw [Int.max_eq_right (by omega)]
      exact .inr ⟨by simp, fun x hx => by
        rcases List.mem_append.1 hx with hx | hx
        · have := h2 x hx; omega
        · simp at hx; omega⟩
/-- the stage's theorem -/
theorem middle {n : Nat} (h4 : 4 ≤ n) (h16 : n ≤ 16) {L : List Hd} (hL : L.length = n) (bad : Nat) {least most : Int} (hl : LeastP (goodL bad L n) least) (hm : MostAP (goodL bad L n) most) :
    (0 ≤ commonF n L → n - 2 ≤ (goodL bad L n).length ∧ least ≤ commonF n L ∧ commonF n L ≤ most) ∧
    ((goodL bad L n).length = n - 1 → 0 ≤ commonF n L ∧ (least = most → commonF n L = least)) := by
  obtain ⟨o, h1, h2, -⟩ := good_perm bad L n (by omega)
  have hc : commonF n L = if (agesOf (L.take n)).length < n - 1 then -1 else medI (agesOf (L.take n)) := by
    unfold commonF
    rw [if_pos (by omega)]
    simp only [Int.toNat_natCast]
    split <;> split <;> first | rfl | omega
  have hlen := h2.length_eq
  rw [List.length_append] at hlen
  have key : n - 1 ≤ (agesOf (L.take n)).length → least ≤ medI (agesOf (L.take n)) ∧ medI (agesOf (L.take n)) ≤ most ∧ 0 ≤ medI (agesOf (L.take n)) := by
    intro hge
    have hpos : 0 < (agesOf (L.take n)).length := by omega
    obtain ⟨s1, s2⟩ := medI_spec hpos
    have hnn := (agesOf_ok (medI_mem hpos)).1
    generalize hmm : medI (agesOf (L.take n)) = m at *
    rw [lessN_perm h2] at s1
    rw [mostN_perm h2] at s2
    rw [h2.length_eq, List.length_append] at s1 s2
    have hG0 : goodL bad L n ≠ [] := by
      intro h0
      rw [h0] at hlen
      simp at hlen; omega
    unfold lessN at s1
    unfold mostN at s2
    rw [List.countP_append] at s1 s2
    have ho := List.countP_le_length (p := fun y => decide (y ≤ m)) (l := o)
    refine ⟨?_, ?_, hnn⟩
    · rcases hl with ⟨h, -⟩ | ⟨-, hall⟩
      · exact absurd h hG0
      · rcases Int.lt_or_le m least with hlt | hge'
        · have h0 : (goodL bad L n).countP (fun y => decide (y ≤ m)) = 0 := by
            rw [List.countP_eq_zero]
            intro x hx
            have := hall x hx
            simp; omega
          omega
        · exact hge'
    · rcases hm with ⟨h, -⟩ | ⟨-, hall⟩
      · exact absurd h hG0
      · rcases Int.lt_or_le most m with hlt | hge'
        · have h0 : (goodL bad L n).countP (fun y => decide (y < m)) = (goodL bad L n).length := by
            rw [List.countP_eq_length]
            intro x hx
            have := hall x hx
            simp; omega
          omega
        · exact hge'
  rw [hc]
  constructor
  · intro h0
    split at h0
    · omega
    · rename_i hge
      rw [if_neg hge]
      obtain ⟨k1, k2, -⟩ := key (by omega)
      exact ⟨by omega, k1, k2⟩
  · intro h0
    rw [if_neg (by omega)]
    obtain ⟨k1, k2, k3⟩ := key (by omega)
    exact ⟨k3, fun h => by omega⟩
theorem turned {n : Nat} {L : List Hd} (hL : L.length = n) (k : Nat) : commonF n (L.drop k ++ L.take k) = commonF n L := by
  have hp : (L.drop k ++ L.take k).Perm L := by
    have := List.perm_append_comm (l₁ := L.drop k) (l₂ := L.take k)
    rwa [List.take_append_drop] at this
  exact commonF_perm (by rw [hp.length_eq]; simp; omega) hp

/-! ### a clock's ages -/
def ownF (n common cold : Int) : Int := if okI (if okI common then common + 2 * n else cold) then (if okI common then common + 2 * n else cold) else -1
theorem ownF_range (n common cold : Int) : -1 ≤ ownF n common cold ∧ ownF n common cold ≤ 1099511627776 := by
  unfold ownF
  generalize (if okI common then common + 2 * n else cold) = a
  split
  · rename_i h
    simp [okI] at h
    omega
  · omega
/-- what a window of ages shows (the newest one last) -/
def bestW : List Int → Int
  | [] => -1
  | a :: W => if 0 ≤ a then max (a + W.length) (bestW W) else bestW W
def showF (W : List Int) : Int := if bestW W ≤ 1099511627776 then bestW W else -1
theorem bestW_ge (W : List Int) : -1 ≤ bestW W := by
  induction W with
  | nil => exact Int.le_refl _
  | cons a W ih => unfold bestW; split <;> omega
def MaxP (W : List Int) (I : Nat → Prop) (v : Int) : Prop := -1 ≤ v ∧ (∀ (i : Nat) (a : Int), I i → W[i]? = some a → 0 ≤ a → a + (W.length : Int) - 1 - i ≤ v) ∧ (v = -1 ∨ ∃ (i : Nat) (a : Int), I i ∧ W[i]? = some a ∧ 0 ≤ a ∧ v = a + (W.length : Int) - 1 - i)
theorem MaxP.unique {W : List Int} {I : Nat → Prop} {v v' : Int} (h : MaxP W I v) (h' : MaxP W I v') : v = v' := by
  obtain ⟨a1, a2, a3⟩ := h
  obtain ⟨b1, b2, b3⟩ := h'
  rcases a3 with a3 | ⟨i, a, ia, ib, ic, id⟩ <;> rcases b3 with b3 | ⟨j, b, ja, jb, jc, jd⟩
  · omega
  · have := a2 j b ja jb jc; omega
  · have := b2 i a ia ib ic; omega
  · have h1 := a2 j b ja jb jc
    have h2 := b2 i a ia ib ic
    omega
theorem bestW_max : ∀ (W : List Int), MaxP W (fun _ => True) (bestW W)
  | [] => ⟨Int.le_refl _, by simp, .inl rfl⟩
  | x :: W => by
    obtain ⟨a1, a2, a3⟩ := bestW_max W
    refine ⟨bestW_ge _, fun i a _ hi ha => ?_, ?_⟩
    · cases i with
      | zero =>
        simp at hi
        subst hi
        unfold bestW
        rw [if_pos ha]
        simp; omega
      | succ i =>
        have := a2 i a trivial (by simpa using hi) ha
        have h2 : bestW W ≤ bestW (x :: W) := by
          conv => rhs; unfold bestW
          split <;> omega
        simp; omega
    · have tail : bestW W = -1 ∨ ∃ (i : Nat) (a : Int), True ∧ (x :: W)[i]? = some a ∧ 0 ≤ a ∧ bestW W = a + ((x :: W).length : Int) - 1 - i := by
        rcases a3 with a3 | ⟨i, a, -, ib, ic, id⟩
        · exact .inl a3
        · exact .inr ⟨i + 1, a, trivial, by simpa using ib, ic, by simp; omega⟩
      unfold bestW
      split
      · rename_i hx
        by_cases hm : x + (W.length : Int) ≤ bestW W
        · rw [Int.max_eq_right hm]; exact tail
        · rw [Int.max_eq_left (by omega)]
          exact .inr ⟨0, x, trivial, rfl, hx, by simp; omega⟩
      · exact tail
theorem MaxP.best {W : List Int} {I : Nat → Prop} {v : Int} (h : MaxP W I v) (hI : ∀ i, i < W.length → I i) : v = bestW W := by
  refine h.unique ?_
  obtain ⟨a1, a2, a3⟩ := bestW_max W
  refine ⟨a1, fun i a _ => a2 i a trivial, ?_⟩
  rcases a3 with a3 | ⟨i, a, -, ib, ic⟩
  · exact .inl a3
  · exact .inr ⟨i, a, hI i (List.getElem?_eq_some_iff.1 ib).1, ib, ic⟩
theorem MaxP.start (W : List Int) {I : Nat → Prop} (h : ∀ i, ¬ I i) : MaxP W I (-1) := ⟨Int.le_refl _, fun i _ hi => absurd hi (h i), .inl rfl⟩
/-- one more place is looked at -/
theorem MaxP.step {W : List Int} {I I' : Nat → Prop} {v : Int} (h : MaxP W I v) {k : Nat} {a : Int} (hk : W[k]? = some a) (hI : ∀ i, I' i ↔ I i ∨ i = k) :
    MaxP W I' (if 0 ≤ a then max v (a + (W.length : Int) - 1 - k) else v) := by
  obtain ⟨a1, a2, a3⟩ := h
  have hkl : k < W.length := (List.getElem?_eq_some_iff.1 hk).1
  by_cases ha : 0 ≤ a
  · rw [if_pos ha]
    refine ⟨by omega, fun i b hi hb h0 => ?_, ?_⟩
    · rcases (hI i).1 hi with hi | rfl
      · have := a2 i b hi hb h0; omega
      · rw [hk] at hb; cases hb; omega
    · by_cases hm : a + (W.length : Int) - 1 - k ≤ v
      · rw [Int.max_eq_left hm]
        rcases a3 with a3 | ⟨i, b, ia, ib⟩
        · exact .inl a3
        · exact .inr ⟨i, b, (hI i).2 (.inl ia), ib⟩
      · rw [Int.max_eq_right (by omega)]
        exact .inr ⟨k, a, (hI k).2 (.inr rfl), hk, ha, rfl⟩
  · rw [if_neg ha]
    refine ⟨a1, fun i b hi hb h0 => ?_, ?_⟩
    · rcases (hI i).1 hi with hi | rfl
      · exact a2 i b hi hb h0
      · rw [hk] at hb; cases hb; omega
    · rcases a3 with a3 | ⟨i, b, ia, ib⟩
      · exact .inl a3
      · exact .inr ⟨i, b, (hI i).2 (.inl ia), ib⟩
theorem bestW_le {W : List Int} {B : Int} (h : ∀ a ∈ W, a ≤ B) (hB : 0 ≤ B) : bestW W ≤ B + W.length := by
  induction W with
  | nil => unfold bestW; simp; omega
  | cons a W ih =>
    have h1 := h a (by simp)
    have h2 := ih fun x hx => h x (by simp [hx])
    unfold bestW
    split <;> simp <;> omega
theorem bestW_newest {W : List Int} {b : Int} (hb : 0 ≤ b) : b ≤ bestW (W ++ [b]) := by
  induction W with
  | nil => simp only [List.nil_append]; unfold bestW; rw [if_pos hb]; simp; omega
  | cons a W ih =>
    rw [List.cons_append]
    unfold bestW
    split <;> omega
theorem bestW_snoc : ∀ (W : List Int) (b : Int), (∀ x ∈ W, 0 ≤ x) → 0 ≤ b → W ≠ [] → bestW (W ++ [b]) = max (bestW W + 1) b
  | [], b, h, hb, hne => absurd rfl hne
  | [x], b, h, hb, _ => by
    have := h x (by simp)
    simp [bestW, hb, this]; omega
  | x :: y :: W, b, h, hb, _ => by
    have hx := h x (by simp)
    have ih := bestW_snoc (y :: W) b (fun z hz => h z (by simp [hz])) hb (by simp)
    rw [List.cons_append]
    unfold bestW
    rw [if_pos hx, ih]
    conv => rhs; rw [if_pos hx]
    simp [List.length_append]
    omega
/-- a window that turns: the oldest age comes again, so much later -/
theorem bestW_turn (a : Int) (W : List Int) (ha : 0 ≤ a) (h : ∀ x ∈ W, 0 ≤ x) (hne : W ≠ []) : bestW (W ++ [a + (W.length : Int) + 1]) = bestW (a :: W) + 1 := by
  rw [bestW_snoc W _ h (by omega) hne]
  have : bestW (a :: W) = max (a + W.length) (bestW W) := by
    conv => lhs; unfold bestW
    rw [if_pos ha]
  rw [this]
  omega
end Go.Proofs.YtnckfjmaochnkaaGreatDoor
