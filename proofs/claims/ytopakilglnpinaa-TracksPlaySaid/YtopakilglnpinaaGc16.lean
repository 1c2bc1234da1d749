/-
  sennitlaw13.Others: rows as the document has them; sennitlaw13.Great: more than is gone through?
-/
import Derived.Test.YtopakilglnpinaaGc15
namespace Go.Proofs.Ytopakilglnpinaa
open Go.RowKit
set_option linter.unusedVariables false
set_option linter.unusedSimpArgs false

/-- rows appended in new memory so far -/
def OS (w : World) (e : TypeId) (l : List Rw) (k : Nat) (v : Value) (wr : World) : Prop :=
  (∃ ps : List (Rw × Value), ps.length = k ∧ ps.map Prod.fst = l.take k ∧ OwnR w.heap.size wr e v ps) ∧ Below w.heap.size w wr
theorem OS.start (w : World) (e : TypeId) (l : List Rw) : OS w e l 0 (.slice none 0 0) w := ⟨⟨[], rfl, by simp, OwnR.nil _ _ _⟩, Below.refl _ _⟩
theorem OS.step {w : World} {e : TypeId} {l : List Rw} {k : Nat} {v : Value} {wr wm w1 : World} (hbel : Below w.heap.size w wr) {ps : List (Rw × Value)} (p1 : ps.length = k) (p2 : ps.map Prod.fst = l.take k) (p3 : OwnR w.heap.size wr e v ps) (hm : Below wr.heap.size wr wm) {y : Rw} {tv : Value} (hyk : y.ok) (hy : l[k]? = some y)
    (ht : RowR (wr.heap.size ≤ ·) wm y tv) {g cap : Nat}
    (ho : w1.ownsRow w.heap.size e 57 (.slice (some ⟨g, 0, none⟩) (k + 1) cap) (k + 1) (flatP ps ++ y.vals tv)) (hg : wm.grownBy w1 v.ownBlock) (hlie : v.ownBlock = some g ∨ g = wm.heap.size) :
    OS w e l (k + 1) (.slice (some ⟨g, 0, none⟩) (k + 1) cap) w1 := by
  have hl := fun b hb => (p3.1.lt b hb).2
  have hms := hm.size
  have hbs := hbel.size
  have hB1 : Below w.heap.size w w1 := (hbel.trans (hm.mono hbs)).grown hg (by omega) (fun q hq => by have := (p3.1.lt q hq).1; omega)
  have p3m : OwnR w.heap.size wm e v ps := p3.keep hms (fun b _ hb => hm.block b hb)
  have hpush := p3m.push hyk (ht.mono (fun b hb hS => ⟨by omega, fun e => by have := hl b e.symm; omega⟩)) p1 ho hg hlie
  exact ⟨⟨ps ++ [(y, tv)], by simp [p1], by rw [List.map_append, p2, List.take_add_one, hy]; rfl, hpush⟩, hB1⟩
/-- rows, in new memory -/
def RowsPost (l : List Rw) (w : World) (e : Ending) (w' : World) : Prop :=
  ∃ a cap, e = .returned (.slice a l.length cap) ∧ RdRs (w.heap.size ≤ ·) w' a l.length l ∧ l.length ≤ cap ∧ cap ≤ maxLen ∧ Below w.heap.size w w'
theorem OS.post {w : World} {e : TypeId} {l : List Rw} {k : Nat} {v : Value} {wr : World} (h : OS w e l k v wr) (hk : k = l.length) : RowsPost l w (.returned v) wr := by
  obtain ⟨⟨ps, p1, p2, p3⟩, hB⟩ := h
  obtain ⟨a, cap, rfl, h1, h2, h3⟩ := p3.rd
  subst hk
  rw [List.take_length] at p2
  rw [p1, p2] at h1
  rw [p1] at h2 ⊢
  exact ⟨a, cap, rfl, h1, h2, h3, hB⟩

set_option maxRecDepth 100000 in
set_option maxHeartbeats 2000000 in
theorem othersR_any (S : Nat → Prop) (a : Option Addr) (len cap : Nat) (l : List Rw) (w : World) (hrd : RdRs S w a len l) (hm1 : len ≤ cap) (hm2 : cap ≤ maxLen) (hbig : len ≤ 100000) (hbt : ∀ r ∈ l, r.t.length ≤ 100000) :
    Calls Try.prog 28 #[.slice a len cap] w (RowsPost l w) := by
  unfold maxLen at hm2
  have hll : l.length = len := hrd.1
  have HR := Lib.hid (And.intro hrd hbt)
  clear hrd hbt
  go_enter Try.func28, Try.ntmps28
  go_wp2_with fail
  go_loopw [3, 4] (fun v i wr => ∃ k : Nat, k ≤ len ∧ i = .int .i64 k ∧ OS w 74 l k v wr) (fun _ i _ => len - (intOf i).toNat)
  case atStart => exact ⟨0, by omega, rfl, OS.start _ _ _⟩
  case round =>
    obtain ⟨k, hk, rfl, hr⟩ := hrel
    by_cases hlt : k < len
    · obtain ⟨⟨ps, p1, p2, p3⟩, hB⟩ := hr
      obtain ⟨b, off, x, m, cp, r, rfl, hS, hbw, hv, hok, hrl, hrc1, hr1, hr2, hr3, hr4, hr5, hr6, hr7⟩ := HR.out.1.at_ k hlt
      have d := row_below hB (p := ⟨b, off + k * 57, none⟩) hbw 57
      have d1 := d.1.trans hr1
      have d2 : rowOf wr ⟨b, off + k * 57, none⟩ 57 = r.vals (.slice x m cp) := d.2.trans hr2
      have hrow : RowR S wr r (.slice x m cp) := ⟨x, m, cp, rfl, hr5.below hB (fun _ _ h => h), hr6, hr7⟩
      have HC := Lib.hid (other_any S r hok (.slice x m cp) wr hrow (HR.out.2 r (List.mem_of_getElem? hv)))
      have HO := Lib.hid p3.1
      have HK := Lib.hid (And.intro hB (And.intro p1 (And.intro p2 (And.intro p3 (And.intro hok hv)))))
      have hwr := hB.size
      clear d hr1 hr2 hr3 hr4 hr5 hr6 hr7 hrow hB p1 p2 p3 hv hrl hrc1
      go_wp2_with fail
      refine HC.out.mono ?_
      rintro e w5 ⟨tv, rfl, hrow5, hb5⟩
      have hyl := Rw.len hok tv
      have hyc := hrow5.cell1 hok
      have hown : w5.ownsRow w.heap.size 74 57 u3 k (flatP ps) := by
        rw [← HK.out.2.1]
        exact own_block HO.out (fun q hq => hb5.block q (HO.out.lt q hq).2)
      have HO5 := Lib.hid hown
      have hs5 := hb5.size
      have H5 := Lib.hid (And.intro hb5 hrow5)
      clear hown hb5 hrow5 HO
      go_wp2_with (at_builtin; refine wpList_lies app_rrow (by rfl) (.tmp 11) (.tmp 17) (by rfl) w.heap.size _ _ _ (by rfl) (HO5.out.alloc _) ⟨w5.heap.size, 0, none⟩ 1 1 (r.vals tv) (by rfl) (by simp [hyl]) (hasRow_new w5 _ _ 0 57 (by simp [hyl])) ((rowOf_new w5 _ _ 0 57 (by simp [hyl])).trans (List.take_of_length_le (by simp [hyl]))) hyc (by omega) (by omega) (by simp; omega) ?_; intro gg cp w7 hown1 hgrow hlie; have H8 := Lib.hid (And.intro hown1 (And.intro hgrow hlie)); clear hown1 hgrow hlie)
      exact ⟨⟨k + 1, by omega, by go_num, OS.step HK.out.1 HK.out.2.1 HK.out.2.2.1 HK.out.2.2.2.1 (H5.out.1.alloc H5.out.1.size _) HK.out.2.2.2.2.1 HK.out.2.2.2.2.2 (H5.out.2.below ((Below.refl _ _).alloc (Nat.le_refl _) _)) H8.out.1 H8.out.2.1 H8.out.2.2⟩, by simp [intOf]; omega⟩
    · have hkl : k = len := by omega
      subst hkl
      have H := Lib.hid (hr.post hll.symm)
      clear hr
      go_wp2_with fail
      go_ret
      exact H.out

/-! ### Great -/
def tot (l : List Rw) : Nat := (l.map (·.t.length)).sum
theorem tot_le {l : List Rw} {r : Rw} (h : r ∈ l) : r.t.length ≤ tot l := by
  induction l with
  | nil => cases h
  | cons x l ih =>
    simp only [tot, List.map_cons, List.sum_cons] at ih ⊢
    rcases List.mem_cons.1 h with rfl | h
    · omega
    · have := ih h; omega
theorem tot_snoc {l : List Rw} {k : Nat} {r : Rw} (h : l[k]? = some r) : tot (l.take (k + 1)) = tot (l.take k) + r.t.length := by
  simp [tot, List.take_add_one, h]
/-- small: all is gone through -/
def smallW (l : List Rw) : Prop := l.length + tot l ≤ 800
theorem tot_take (l : List Rw) (k : Nat) : tot (l.take k) ≤ tot l := by
  have h : tot l = tot (l.take k) + tot (l.drop k) := by
    conv => lhs; rw [← List.take_append_drop k l]
    simp only [tot, List.map_append, List.sum_append]
  omega
/-- what any machine may hold -/
def szW (l : List Rw) : Prop := l.length ≤ 140737488355328 ∧ ∀ r ∈ l, r.t.length ≤ 140737488355328

def GreatPost (l : List Rw) (w : World) (e : Ending) (w' : World) : Prop := (∃ b, e = .returned (.bool b) ∧ (b = false → smallW l)) ∧ Below w.heap.size w w'

set_option maxRecDepth 100000 in
set_option maxHeartbeats 1000000 in
theorem great_any (S : Nat → Prop) (a : Option Addr) (len cap : Nat) (l : List Rw) (w : World) (hrd : RdRs S w a len l) (hm1 : len ≤ cap) (hm2 : cap ≤ maxLen) (hsz : szW l) :
    Calls Try.prog 20 #[.agg #[.slice a len cap]] w (GreatPost l w) := by
  unfold maxLen at hm2
  have hll : l.length = len := hrd.1
  obtain ⟨hz1, hz2⟩ := hsz
  have HR := Lib.hid (And.intro hrd hz2)
  clear hrd hz2
  go_enter Try.func20, Try.ntmps20
  go_upto_region 1 with fail
  have hb : Blk (w.alloc (.cells #[.slice a len cap] 34)) w.heap.size 34 #[.slice a len cap] := Blk.new _ _ _
  have hB : Below w.heap.size w (w.alloc (.cells #[.slice a len cap] 34)) := (Below.refl _ _).alloc (Nat.le_refl _) _
  generalize w.alloc (.cells #[.slice a len cap] 34) = w0 at hb hB ⊢
  have c0 := hb.cell 0
  simp at c0
  have H0 := Lib.hid (And.intro hb hB)
  clear hb hB
  go_wp2_with fail
  go_loopw [3, 4] (fun n i wr => ∃ k : Nat, k ≤ len ∧ i = .int .i64 k ∧ n = .int .i64 ((len + tot (l.take k) : Nat) : Int) ∧ len + tot (l.take k) ≤ 281474976710656 ∧ wr = w0) (fun _ i _ => len - (intOf i).toNat)
  case atStart => exact ⟨0, by omega, rfl, by simp [tot], by simp [tot]; omega, rfl⟩
  case round =>
    obtain ⟨k, hk, rfl, rfl, hn, rfl⟩ := hrel
    by_cases hlt : k < len
    · by_cases h9 : len + tot (l.take k) < 900
      · obtain ⟨b, off, x, m, cp, r, rfl, hS, hbw, hv, hok, hrl, hrc1, hr1, hr2, hr3, hr4, hr5, hr6, hr7⟩ := HR.out.1.at_ k hlt
        have hmz := HR.out.2 r (List.mem_of_getElem? hv)
        rw [hr5.1] at hmz
        have d4 := (H0.out.2.cell (p := ⟨b, off + k * 57 + 56, none⟩) hbw).trans hr4
        have hm : r.t.length = m := hr5.1
        have hts := tot_snoc hv
        unfold maxLen at hr7
        have h9' : ((len + tot (l.take k) : Nat) : Int) < 900 := by omega
        have HT := Lib.hid (And.intro hts hm)
        clear hr1 hr2 hr3 hr4 hr5 hv hok hrc1 hrl hts hm
        generalize hT : len + tot (l.take k) = T at h9 hn h9' ⊢
        have HTT := Lib.hid hT
        clear hT
        go_wp2_with fail
        exact ⟨⟨k + 1, by omega, by go_num, by rw [HT.out.1, HT.out.2, ← Nat.add_assoc, HTT.out]; go_num, by rw [HT.out.1, HT.out.2]; have := HTT.out; omega, trivial⟩, by simp [intOf]; omega⟩
      · have h9' : ¬ ((len + tot (l.take k) : Nat) : Int) < 900 := by omega
        have htt := tot_take l k
        have HT := Lib.hid htt
        have hgt : 800 < ((len + tot (l.take k) : Nat) : Int) := by omega
        clear htt
        generalize len + tot (l.take k) = T at hn h9 h9' hgt ⊢
        go_wp2_with fail
        go_ret
        exact ⟨⟨true, by first | rfl | simp | (simp; omega), by simp⟩, H0.out.2⟩
    · have hkl : k = len := by omega
      subst hkl
      rw [List.take_of_length_le (by omega)] at hn ⊢
      obtain ⟨bb, hbb⟩ : ∃ b, b = decide (800 < ((k + tot l : Nat) : Int)) := ⟨_, rfl⟩
      have HB := Lib.hid hbb
      clear hbb
      generalize hT : k + tot l = T at hn HB ⊢
      have HTT := Lib.hid hT
      clear hT
      go_wp2_with fail
      go_ret
      refine ⟨⟨decide (800 < (T : Int)), by simp, fun h => ?_⟩, H0.out.2⟩
      have := HTT.out
      simp at h
      unfold smallW
      omega
end Go.Proofs.Ytopakilglnpinaa
