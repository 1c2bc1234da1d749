
/-
  Configs (chapter 4): the first error of some, ints inside, ints contained, ints sorted.
-/
import Derived.Test.YtopakilglnpinaaGreatDoorBn1
namespace Go.Proofs.YtopakilglnpinaaGreatDoor
open Go.RowKit
set_option linter.unusedVariables false
set_option linter.unusedSimpArgs false

/-! ### the first error of some -/
def idxP (p : Int → Bool) : List Int → Int → Int
  | [], _ => -1
  | x :: r, k => if p x then k else idxP p r (k + 1)
theorem idxP_step {p : Int → Bool} {zs : List Int} {k : Nat} {z : Int} (hz : zs[k]? = some z) : idxP p (zs.drop k) k = if p z then (k : Int) else idxP p (zs.drop (k + 1)) ((k + 1 : Nat) : Int) := by
  have hk : k < zs.length := (List.getElem?_eq_some_iff.1 hz).1
  rw [List.drop_eq_getElem_cons hk]
  have : zs[k] = z := (List.getElem?_eq_some_iff.1 hz).2
  rw [this]
  simp [idxP]
def firstE : List Int → Int
  | [] => 0
  | x :: r => if x = 0 then firstE r else x
theorem first1_any (z : Int) (w : World) : Calls Tryz.prog 74 #[.int .i64 z] w fun e w' => e = .returned (.bool (decide (z ≠ 0))) ∧ w' = w := by
  go_enter Tryz.func74, Tryz.ntmps74
  by_cases h : z = 0
  · subst h
    go_wp2
    go_ret
    exact ⟨rfl, rfl⟩
  · go_wp2
    go_ret
    exact ⟨by simp [h], rfl⟩
set_option maxRecDepth 100000 in
set_option maxHeartbeats 1000000 in
theorem idxE_any (S : Nat → Prop) (a : Option Addr) (len cap : Nat) (zs : List Int) (w : World) (h : RdZ S w a len zs) (hm1 : len ≤ cap) (hm2 : cap ≤ maxLen) :
    Calls Tryz.prog 73 #[.slice a len cap, .func (.func 74) #[] #[]] w fun e w' => e = .returned (.int .i64 (idxP (fun z => decide (z ≠ 0)) zs 0)) ∧ w' = w := by
  unfold maxLen at hm2
  have HR := Lib.hid h
  clear h
  obtain ⟨p, hp⟩ : ∃ p : Int → Bool, p = fun z => decide (z ≠ 0) := ⟨_, rfl⟩
  rw [← hp]
  have HF : Hid (∀ z w, Calls Tryz.prog 74 #[.int .i64 z] w fun e w' => e = .returned (.bool (p z)) ∧ w' = w) := Lib.hid (by rw [hp]; exact first1_any)
  clear hp
  go_enter Tryz.func73, Tryz.ntmps73
  go_wp2_with fail
  go_loopw [8] (fun i wr => ∃ k : Nat, k ≤ len ∧ i = .int .i64 k ∧ wr = w ∧ idxP p zs 0 = idxP p (zs.drop k) k) (fun i _ => len - (intOf i).toNat)
  case atStart => exact ⟨0, by omega, rfl, rfl, rfl⟩
  case round =>
    obtain ⟨k, hk, rfl, rfl, he⟩ := hrel
    have HE := Lib.hid he
    clear he
    by_cases hlt : k < len
    · obtain ⟨b, off, z, rfl, -, -, hz, hc⟩ := HR.out.at_ hlt
      have hlt' : (k : Int) < len := by omega
      have hk0 : (0 : Int) ≤ k := by omega
      have HZ := Lib.hid hz
      have HW := Lib.hid (HF.out z wr)
      obtain ⟨q, hq⟩ : ∃ q, q = p z := ⟨_, rfl⟩
      have HQ := Lib.hid hq
      rw [← hq] at HW
      clear hz hq
      go_wp2_with fail
      (with_reducible refine HW.out.mono ?_)
      rintro e w' ⟨rfl, rfl⟩
      cases q with
      | true =>
        have HN : Hid (idxP p zs 0 = (k : Int)) := Lib.hid (by rw [HE.out, idxP_step HZ.out, if_pos HQ.out.symm])
        go_wp2_with fail
        go_ret
        rw [HN.out]
        exact ⟨rfl, rfl⟩
      | false =>
        have HN : Hid (idxP p zs 0 = idxP p (zs.drop (k + 1)) ((k + 1 : Nat) : Int)) := Lib.hid (by rw [HE.out, idxP_step HZ.out, if_neg (by rw [← HQ.out]; decide)])
        go_wp2_with fail
        exact ⟨⟨k + 1, by omega, by go_num, by first | rfl | trivial, HN.out⟩, by simp [intOf]; omega⟩
    · have hlt' : ¬ (k : Int) < len := by omega
      have HN : Hid (idxP p zs 0 = -1) := Lib.hid (by rw [HE.out, List.drop_eq_nil_of_le (by rw [HR.out.1]; omega)]; rfl)
      go_wp2_with fail
      go_ret
      rw [HN.out]
      exact ⟨rfl, rfl⟩
theorem firstE_idx (zs : List Int) : ∀ k : Nat, (idxP (fun z => decide (z ≠ 0)) zs k = -1 ∧ firstE zs = 0) ∨ ∃ j z, zs[j]? = some z ∧ idxP (fun z => decide (z ≠ 0)) zs k = ((k + j : Nat) : Int) ∧ firstE zs = z := by
  induction zs with
  | nil => exact fun k => .inl ⟨rfl, rfl⟩
  | cons x r ih =>
    intro k
    by_cases h : x = 0
    · rcases ih (k + 1) with ⟨h1, h2⟩ | ⟨j, z, h1, h2, h3⟩
      · refine .inl ⟨?_, ?_⟩
        · simp only [idxP, h, ne_eq, not_true, decide_false]
          exact h1
        · simp only [firstE, h, if_true]
          exact h2
      · refine .inr ⟨j + 1, z, by simpa using h1, ?_, ?_⟩
        · simp only [idxP, h, ne_eq, not_true, decide_false]
          rw [show k + (j + 1) = k + 1 + j from by omega]
          exact h2
        · simp only [firstE, h, if_true]
          exact h3
    · exact .inr ⟨0, x, rfl, by simp [idxP, h], by simp [firstE, h]⟩
set_option maxRecDepth 100000 in
set_option maxHeartbeats 1000000 in
theorem first_any (S : Nat → Prop) (a : Option Addr) (len cap : Nat) (zs : List Int) (w : World) (h : RdZ S w a len zs) (hm1 : len ≤ cap) (hm2 : cap ≤ maxLen) :
    Calls Tryz.prog 55 #[.slice a len cap] w fun e w' => e = .returned (.int .i64 (firstE zs)) ∧ w' = w := by
  have HR := Lib.hid h
  have HI := Lib.hid (idxE_any S a len cap zs w h hm1 hm2)
  unfold maxLen at hm2
  clear h
  go_enter Tryz.func55, Tryz.ntmps55
  rcases firstE_idx zs 0 with ⟨h1, h2⟩ | ⟨j, z, hj, h1, h2⟩
  · rw [h2]
    rw [show ((0 : Nat) : Int) = 0 from rfl] at h1
    rw [h1] at HI
    clear h1 h2
    go_wp2_with fail
    (with_reducible refine HI.out.mono ?_)
    rintro e w' ⟨rfl, rfl⟩
    go_wp2_with fail
    go_ret
    exact ⟨rfl, rfl⟩
  · obtain ⟨b, off, rfl, -, -, hc⟩ := HR.out.2 j z hj
    have hjl : j < len := by rw [← HR.out.1]; exact (List.getElem?_eq_some_iff.1 hj).1
    rw [h2]
    rw [show ((0 : Nat) : Int) = 0 from rfl, Nat.zero_add] at h1
    rw [h1] at HI
    have hj1 : (j : Int) < len := by omega
    have hj0 : (0 : Int) ≤ j := by omega
    have hj2 : ¬ (j : Int) < 0 := by omega
    clear h1 h2 hj
    go_wp2_with fail
    (with_reducible refine HI.out.mono ?_)
    rintro e w' ⟨rfl, rfl⟩
    go_wp2_with fail
    go_ret
    exact ⟨rfl, rfl⟩

/-! ### inside -/
theorem inside1_any (N z : Int) (g : Nat) (w : World) (hg : w.cell? ⟨g, 0, none⟩ = some (.int .i64 N)) : Calls Tryz.prog 67 #[.int .i64 z, .pointer (some ⟨g, 0, none⟩)] w fun e w' => e = .returned (.bool (decide (z < 0 ∨ N ≤ z))) ∧ w' = w := by
  go_enter Tryz.func67, Tryz.ntmps67
  by_cases h : z < 0
  · go_wp2
    go_ret
    exact ⟨by simp [h], rfl⟩
  · by_cases h2 : N ≤ z
    · go_wp2
      go_ret
      exact ⟨by simp [h2], rfl⟩
    · go_wp2
      go_ret
      exact ⟨by simp [h, h2], rfl⟩
set_option maxRecDepth 100000 in
set_option maxHeartbeats 1000000 in
theorem idxI_any (S : Nat → Prop) (a : Option Addr) (len cap : Nat) (zs : List Int) (N : Int) (g : Nat) (w : World) (hg : w.cell? ⟨g, 0, none⟩ = some (.int .i64 N)) (h : RdZ S w a len zs) (hm1 : len ≤ cap) (hm2 : cap ≤ maxLen) :
    Calls Tryz.prog 80 #[.slice a len cap, .func (.func 67) #[] #[.pointer (some ⟨g, 0, none⟩)]] w fun e w' => e = .returned (.int .i64 (idxP (fun z => decide (z < 0 ∨ N ≤ z)) zs 0)) ∧ w' = w := by
  unfold maxLen at hm2
  have HR := Lib.hid h
  clear h
  obtain ⟨p, hp⟩ : ∃ p : Int → Bool, p = fun z => decide (z < 0 ∨ N ≤ z) := ⟨_, rfl⟩
  rw [← hp]
  have HF : Hid (∀ z, Calls Tryz.prog 67 #[.int .i64 z, .pointer (some ⟨g, 0, none⟩)] w fun e w' => e = .returned (.bool (p z)) ∧ w' = w) := Lib.hid (by rw [hp]; exact fun z => inside1_any N z g w hg)
  clear hp hg
  go_enter Tryz.func80, Tryz.ntmps80
  go_wp2_with fail
  go_loopw [8] (fun i wr => ∃ k : Nat, k ≤ len ∧ i = .int .i64 k ∧ wr = w ∧ idxP p zs 0 = idxP p (zs.drop k) k) (fun i _ => len - (intOf i).toNat)
  case atStart => exact ⟨0, by omega, rfl, rfl, rfl⟩
  case round =>
    obtain ⟨k, hk, rfl, rfl, he⟩ := hrel
    have HE := Lib.hid he
    clear he
    by_cases hlt : k < len
    · obtain ⟨b, off, z, rfl, -, -, hz, hc⟩ := HR.out.at_ hlt
      have hlt' : (k : Int) < len := by omega
      have hk0 : (0 : Int) ≤ k := by omega
      have HZ := Lib.hid hz
      have HW := Lib.hid (HF.out z)
      obtain ⟨q, hq⟩ : ∃ q, q = p z := ⟨_, rfl⟩
      have HQ := Lib.hid hq
      rw [← hq] at HW
      clear hz hq
      go_wp2_with fail
      (with_reducible refine HW.out.mono ?_)
      rintro e w' ⟨rfl, rfl⟩
      cases q with
      | true =>
        have HN : Hid (idxP p zs 0 = (k : Int)) := Lib.hid (by rw [HE.out, idxP_step HZ.out, if_pos HQ.out.symm])
        go_wp2_with fail
        go_ret
        rw [HN.out]
        exact ⟨rfl, rfl⟩
      | false =>
        have HN : Hid (idxP p zs 0 = idxP p (zs.drop (k + 1)) ((k + 1 : Nat) : Int)) := Lib.hid (by rw [HE.out, idxP_step HZ.out, if_neg (by rw [← HQ.out]; decide)])
        go_wp2_with fail
        exact ⟨⟨k + 1, by omega, by go_num, by first | rfl | trivial, HN.out⟩, by simp [intOf]; omega⟩
    · have hlt' : ¬ (k : Int) < len := by omega
      have HN : Hid (idxP p zs 0 = -1) := Lib.hid (by rw [HE.out, List.drop_eq_nil_of_le (by rw [HR.out.1]; omega)]; rfl)
      go_wp2_with fail
      go_ret
      rw [HN.out]
      exact ⟨rfl, rfl⟩
def insideB (N : Int) (zs : List Int) : Bool := zs.all fun z => decide (0 ≤ z ∧ z < N)
theorem idxP_any {p : Int → Bool} : ∀ (zs : List Int) (k : Nat), (0 ≤ idxP p zs k ∧ zs.any p = true) ∨ (idxP p zs k = -1 ∧ zs.any p = false)
  | [], k => .inr ⟨rfl, rfl⟩
  | x :: r, k => by
    by_cases h : p x
    · exact .inl ⟨by simp [idxP, h], by simp [h]⟩
    · rcases idxP_any (p := p) r (k + 1) with ⟨h1, h2⟩ | ⟨h1, h2⟩
      · refine .inl ⟨?_, by simp [h2]⟩
        simp only [idxP, h]
        exact h1
      · refine .inr ⟨?_, by simp [h, h2]⟩
        simp only [idxP, h]
        exact h1
set_option maxRecDepth 100000 in
set_option maxHeartbeats 1000000 in
theorem inside_any (S : Nat → Prop) (a : Option Addr) (len cap : Nat) (zs : List Int) (N : Int) (w : World) (h : RdZ S w a len zs) (hm1 : len ≤ cap) (hm2 : cap ≤ maxLen) :
    Calls Tryz.prog 47 #[.slice a len cap, .int .i64 N] w fun e w' => e = .returned (.bool (insideB N zs)) ∧ Below w.heap.size w w' := by
  have hmf : ∀ (fn : Fn) (first cap : Array Value) (w : World), (Instr.makeFunc fn first cap).run Tryz.prog w = .ok (.func fn first cap) w := fun _ _ _ _ => rfl
  have hB : Below w.heap.size w (w.alloc (.cells #[.int .i64 N] 3)) := (Below.refl _ _).alloc (Nat.le_refl _) _
  have hc : (w.alloc (.cells #[.int .i64 N] 3)).cell? ⟨w.heap.size, 0, none⟩ = some (.int .i64 N) := (Blk.new w _ _).cell 0
  have HB := Lib.hid hB
  obtain ⟨w1, hw1⟩ : ∃ w1, w1 = w.alloc (.cells #[.int .i64 N] 3) := ⟨_, rfl⟩
  have HC : Hid (Calls Tryz.prog 66 #[.slice a len cap, .func (.func 67) #[] #[.pointer (some ⟨w.heap.size, 0, none⟩)]] w1 fun e w' => e = .returned (.bool (!insideB N zs)) ∧ w' = w1) := Lib.hid (by
    rw [← hw1] at hc hB
    have HI := Lib.hid (idxI_any S a len cap zs N w.heap.size w1 hc (h.below hB) hm1 hm2)
    clear hw1 h hB hc
    go_enter Tryz.func66, Tryz.ntmps66
    have he : zs.any (fun z => decide (z < 0 ∨ N ≤ z)) = !insideB N zs := by
      unfold insideB
      rw [List.not_all_eq_any_not]
      congr 1
      funext z
      by_cases h1 : z < 0 <;> by_cases h2 : N ≤ z <;> simp [h1, h2] <;> omega
    rw [← he]
    rcases idxP_any (p := fun z => decide (z < 0 ∨ N ≤ z)) zs 0 with ⟨h1, h2⟩ | ⟨h1, h2⟩
    · rw [h2]
      rw [show ((0 : Nat) : Int) = 0 from rfl] at h1
      generalize idxP (fun z => decide (z < 0 ∨ N ≤ z)) zs 0 = q at HI h1
      clear h2 he
      go_wp2_with fail
      (with_reducible refine HI.out.mono ?_)
      rintro e w' ⟨rfl, rfl⟩
      go_wp2_with fail
      go_ret
      exact ⟨rfl, rfl⟩
    · rw [h2]
      rw [show ((0 : Nat) : Int) = 0 from rfl] at h1
      rw [h1] at HI
      clear h2 he h1
      go_wp2_with fail
      (with_reducible refine HI.out.mono ?_)
      rintro e w' ⟨rfl, rfl⟩
      go_wp2_with fail
      go_ret
      exact ⟨rfl, rfl⟩)
  clear hB hc h
  go_enter Tryz.func47, Tryz.ntmps47
  obtain ⟨q, hq⟩ : ∃ q, q = insideB N zs := ⟨_, rfl⟩
  rw [← hq] at HC
  rw [← hq]
  clear hq
  go_upto_region 1 with fail
  rw [← hw1] at HB
  rw [← hw1]
  clear hw1
  go_wp2_with fail
  (with_reducible refine HC.out.mono ?_)
  rintro e w' ⟨rfl, rfl⟩
  cases q <;> (go_wp2_with fail; go_ret; exact ⟨rfl, HB.out⟩)
end Go.Proofs.YtopakilglnpinaaGreatDoor
