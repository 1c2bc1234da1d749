/-
  Configs (chapter 4): the first error of some, ints inside, ints contained, ints sorted. Rings (chapter 3): a step on; ints contained, ints sorted.
-/
import Derived.Test.YtnckfjmaochnkaaGreatDoorGd28
namespace Go.Proofs.YtnckfjmaochnkaaGreatDoor
open Go.RowKit
set_option linter.unusedVariables false
set_option linter.unusedSimpArgs false

/-! ### the first error of some -/
def idxP (p : Int → Bool) : List Int → Int → Int
  | [], _ => -1
  | x :: r, k => if p x then k else idxP p r (k + 1)
theorem idxP_step {p : Int → Bool} {zs : List Int} {k : Nat} {z : Int} (hz : zs[k]? = some z) : idxP p (zs.drop k) k = if p z then (k : Int) else idxP p (zs.drop (k + 1)) ((k + 1 : Nat) : Int) := by
  have hk : k < zs.length := (List.getElem?_eq_some_iff.1 hz).1
  rw [List.drop_eq_getElem_cons hk]
  have : zs[k] = z := (List.getElem?_eq_some_iff.1 hz).2
  rw [this]
  simp [idxP]
def firstE : List Int → Int
  | [] => 0
  | x :: r => if x = 0 then firstE r else x
theorem first1_any (z : Int) (w : World) : Calls Tryz.prog 181 #[.int .i64 z] w fun e w' => e = .returned (.bool (decide (z ≠ 0))) ∧ w' = w := by
  go_enter Tryz.func181, Tryz.ntmps181
  by_cases h : z = 0
  · subst h
    go_wp2
    go_ret
    exact ⟨rfl, rfl⟩
  · go_wp2
    go_ret
    exact ⟨by simp [h], rfl⟩
set_option maxRecDepth 100000 in
set_option maxHeartbeats 1000000 in
theorem idxE_any (S : Nat → Prop) (a : Option Addr) (len cap : Nat) (zs : List Int) (w : World) (h : RdZ S w a len zs) (hm1 : len ≤ cap) (hm2 : cap ≤ maxLen) :
    Calls Tryz.prog 180 #[.slice a len cap, .func (.func 181) #[] #[]] w fun e w' => e = .returned (.int .i64 (idxP (fun z => decide (z ≠ 0)) zs 0)) ∧ w' = w := by
  unfold maxLen at hm2
  have HR := Lib.hid h
  clear h
  obtain ⟨p, hp⟩ : ∃ p : Int → Bool, p = fun z => decide (z ≠ 0) := ⟨_, rfl⟩
  rw [← hp]
  have HF : Hid (∀ z w, Calls Tryz.prog 181 #[.int .i64 z] w fun e w' => e = .returned (.bool (p z)) ∧ w' = w) := Lib.hid (by rw [hp]; exact first1_any)
  clear hp
  go_enter Tryz.func180, Tryz.ntmps180
  go_wp2_with fail
  go_loopw [8] (fun i wr => ∃ k : Nat, k ≤ len ∧ i = .int .i64 k ∧ wr = w ∧ idxP p zs 0 = idxP p (zs.drop k) k) (fun i _ => len - (intOf i).toNat)
  case atStart => exact ⟨0, by omega, rfl, rfl, rfl⟩
  case round =>
    obtain ⟨k, hk, rfl, rfl, he⟩ := hrel
    have HE := Lib.hid he
    clear he
    by_cases hlt : k < len
    · obtain ⟨b, off, z, rfl, -, -, hz, hc⟩ := HR.out.at_ hlt
      have hlt' : (k : Int) < len := by omega
      have hk0 : (0 : Int) ≤ k := by omega
      have HZ := Lib.hid hz
      have HW := Lib.hid (HF.out z wr)
      obtain ⟨q, hq⟩ : ∃ q, q = p z := ⟨_, rfl⟩
      have HQ := Lib.hid hq
      rw [← hq] at HW
      clear hz hq
      go_wp2_with fail
      (with_reducible refine HW.out.mono ?_)
      rintro e w' ⟨rfl, rfl⟩
      cases q with
      | true =>
        have HN : Hid (idxP p zs 0 = (k : Int)) := Lib.hid (by rw [HE.out, idxP_step HZ.out, if_pos HQ.out.symm])
        go_wp2_with fail
        go_ret
        rw [HN.out]
        exact ⟨rfl, rfl⟩
      | false =>
        have HN : Hid (idxP p zs 0 = idxP p (zs.drop (k + 1)) ((k + 1 : Nat) : Int)) := Lib.hid (by rw [HE.out, idxP_step HZ.out, if_neg (by rw [← HQ.out]; decide)])
        go_wp2_with fail
        exact ⟨⟨k + 1, by omega, by go_num, by first | rfl | trivial, HN.out⟩, by simp [intOf]; omega⟩
    · have hlt' : ¬ (k : Int) < len := by omega
      have HN : Hid (idxP p zs 0 = -1) := Lib.hid (by rw [HE.out, List.drop_eq_nil_of_le (by rw [HR.out.1]; omega)]; rfl)
      go_wp2_with fail
      go_ret
      rw [HN.out]
      exact ⟨rfl, rfl⟩
theorem firstE_idx (zs : List Int) : ∀ k : Nat, (idxP (fun z => decide (z ≠ 0)) zs k = -1 ∧ firstE zs = 0) ∨ ∃ j z, zs[j]? = some z ∧ idxP (fun z => decide (z ≠ 0)) zs k = ((k + j : Nat) : Int) ∧ firstE zs = z := by
  induction zs with
  | nil => exact fun k => .inl ⟨rfl, rfl⟩
  | cons x r ih =>
    intro k
    by_cases h : x = 0
    · rcases ih (k + 1) with ⟨h1, h2⟩ | ⟨j, z, h1, h2, h3⟩
      · refine .inl ⟨?_, ?_⟩
        · simp only [idxP, h, ne_eq, not_true, decide_false]
          exact h1
        · simp only [firstE, h, if_true]
          exact h2
      · refine .inr ⟨j + 1, z, by simpa using h1, ?_, ?_⟩
        · simp only [idxP, h, ne_eq, not_true, decide_false]
          rw [show k + (j + 1) = k + 1 + j from by omega]
          exact h2
        · simp only [firstE, h, if_true]
          exact h3
    · exact .inr ⟨0, x, rfl, by simp [idxP, h], by simp [firstE, h]⟩
set_option maxRecDepth 100000 in
set_option maxHeartbeats 1000000 in
theorem first_any (S : Nat → Prop) (a : Option Addr) (len cap : Nat) (zs : List Int) (w : World) (h : RdZ S w a len zs) (hm1 : len ≤ cap) (hm2 : cap ≤ maxLen) :
    Calls Tryz.prog 123 #[.slice a len cap] w fun e w' => e = .returned (.int .i64 (firstE zs)) ∧ w' = w := by
  have HR := Lib.hid h
  have HI := Lib.hid (idxE_any S a len cap zs w h hm1 hm2)
  unfold maxLen at hm2
  clear h
  go_enter Tryz.func123, Tryz.ntmps123
  rcases firstE_idx zs 0 with ⟨h1, h2⟩ | ⟨j, z, hj, h1, h2⟩
  · rw [h2]
    rw [show ((0 : Nat) : Int) = 0 from rfl] at h1
    rw [h1] at HI
    clear h1 h2
    go_wp2_with fail
    (with_reducible refine HI.out.mono ?_)
    rintro e w' ⟨rfl, rfl⟩
    go_wp2_with fail
    go_ret
    exact ⟨rfl, rfl⟩
  · obtain ⟨b, off, rfl, -, -, hc⟩ := HR.out.2 j z hj
    have hjl : j < len := by rw [← HR.out.1]; exact (List.getElem?_eq_some_iff.1 hj).1
    rw [h2]
    rw [show ((0 : Nat) : Int) = 0 from rfl, Nat.zero_add] at h1
    rw [h1] at HI
    have hj1 : (j : Int) < len := by omega
    have hj0 : (0 : Int) ≤ j := by omega
    have hj2 : ¬ (j : Int) < 0 := by omega
    clear h1 h2 hj
    go_wp2_with fail
    (with_reducible refine HI.out.mono ?_)
    rintro e w' ⟨rfl, rfl⟩
    go_wp2_with fail
    go_ret
    exact ⟨rfl, rfl⟩

/-! ### inside -/
theorem inside1_any (N z : Int) (g : Nat) (w : World) (hg : w.cell? ⟨g, 0, none⟩ = some (.int .i64 N)) : Calls Tryz.prog 174 #[.int .i64 z, .pointer (some ⟨g, 0, none⟩)] w fun e w' => e = .returned (.bool (decide (z < 0 ∨ N ≤ z))) ∧ w' = w := by
  go_enter Tryz.func174, Tryz.ntmps174
  by_cases h : z < 0
  · go_wp2
    go_ret
    exact ⟨by simp [h], rfl⟩
  · by_cases h2 : N ≤ z
    · go_wp2
      go_ret
      exact ⟨by simp [h2], rfl⟩
    · go_wp2
      go_ret
      exact ⟨by simp [h, h2], rfl⟩
set_option maxRecDepth 100000 in
set_option maxHeartbeats 1000000 in
theorem idxI_any (S : Nat → Prop) (a : Option Addr) (len cap : Nat) (zs : List Int) (N : Int) (g : Nat) (w : World) (hg : w.cell? ⟨g, 0, none⟩ = some (.int .i64 N)) (h : RdZ S w a len zs) (hm1 : len ≤ cap) (hm2 : cap ≤ maxLen) :
    Calls Tryz.prog 223 #[.slice a len cap, .func (.func 174) #[] #[.pointer (some ⟨g, 0, none⟩)]] w fun e w' => e = .returned (.int .i64 (idxP (fun z => decide (z < 0 ∨ N ≤ z)) zs 0)) ∧ w' = w := by
  unfold maxLen at hm2
  have HR := Lib.hid h
  clear h
  obtain ⟨p, hp⟩ : ∃ p : Int → Bool, p = fun z => decide (z < 0 ∨ N ≤ z) := ⟨_, rfl⟩
  rw [← hp]
  have HF : Hid (∀ z, Calls Tryz.prog 174 #[.int .i64 z, .pointer (some ⟨g, 0, none⟩)] w fun e w' => e = .returned (.bool (p z)) ∧ w' = w) := Lib.hid (by rw [hp]; exact fun z => inside1_any N z g w hg)
  clear hp hg
  go_enter Tryz.func223, Tryz.ntmps223
  go_wp2_with fail
  go_loopw [8] (fun i wr => ∃ k : Nat, k ≤ len ∧ i = .int .i64 k ∧ wr = w ∧ idxP p zs 0 = idxP p (zs.drop k) k) (fun i _ => len - (intOf i).toNat)
  case atStart => exact ⟨0, by omega, rfl, rfl, rfl⟩
  case round =>
    obtain ⟨k, hk, rfl, rfl, he⟩ := hrel
    have HE := Lib.hid he
    clear he
    by_cases hlt : k < len
    · obtain ⟨b, off, z, rfl, -, -, hz, hc⟩ := HR.out.at_ hlt
      have hlt' : (k : Int) < len := by omega
      have hk0 : (0 : Int) ≤ k := by omega
      have HZ := Lib.hid hz
      have HW := Lib.hid (HF.out z)
      obtain ⟨q, hq⟩ : ∃ q, q = p z := ⟨_, rfl⟩
      have HQ := Lib.hid hq
      rw [← hq] at HW
      clear hz hq
      go_wp2_with fail
      (with_reducible refine HW.out.mono ?_)
      rintro e w' ⟨rfl, rfl⟩
      cases q with
      | true =>
        have HN : Hid (idxP p zs 0 = (k : Int)) := Lib.hid (by rw [HE.out, idxP_step HZ.out, if_pos HQ.out.symm])
        go_wp2_with fail
        go_ret
        rw [HN.out]
        exact ⟨rfl, rfl⟩
      | false =>
        have HN : Hid (idxP p zs 0 = idxP p (zs.drop (k + 1)) ((k + 1 : Nat) : Int)) := Lib.hid (by rw [HE.out, idxP_step HZ.out, if_neg (by rw [← HQ.out]; decide)])
        go_wp2_with fail
        exact ⟨⟨k + 1, by omega, by go_num, by first | rfl | trivial, HN.out⟩, by simp [intOf]; omega⟩
    · have hlt' : ¬ (k : Int) < len := by omega
      have HN : Hid (idxP p zs 0 = -1) := Lib.hid (by rw [HE.out, List.drop_eq_nil_of_le (by rw [HR.out.1]; omega)]; rfl)
      go_wp2_with fail
      go_ret
      rw [HN.out]
      exact ⟨rfl, rfl⟩
def insideB (N : Int) (zs : List Int) : Bool := zs.all fun z => decide (0 ≤ z ∧ z < N)
theorem idxP_any {p : Int → Bool} : ∀ (zs : List Int) (k : Nat), (0 ≤ idxP p zs k ∧ zs.any p = true) ∨ (idxP p zs k = -1 ∧ zs.any p = false)
  | [], k => .inr ⟨rfl, rfl⟩
  | x :: r, k => by
    by_cases h : p x
    · exact .inl ⟨by simp [idxP, h], by simp [h]⟩
    · rcases idxP_any (p := p) r (k + 1) with ⟨h1, h2⟩ | ⟨h1, h2⟩
      · refine .inl ⟨?_, by simp [h2]⟩
        simp only [idxP, h]
        exact h1
      · refine .inr ⟨?_, by simp [h, h2]⟩
        simp only [idxP, h]
        exact h1
set_option maxRecDepth 100000 in
set_option maxHeartbeats 1000000 in
theorem inside_any (S : Nat → Prop) (a : Option Addr) (len cap : Nat) (zs : List Int) (N : Int) (w : World) (h : RdZ S w a len zs) (hm1 : len ≤ cap) (hm2 : cap ≤ maxLen) :
    Calls Tryz.prog 115 #[.slice a len cap, .int .i64 N] w fun e w' => e = .returned (.bool (insideB N zs)) ∧ Below w.heap.size w w' := by
  have hmf : ∀ (fn : Fn) (first cap : Array Value) (w : World), (Instr.makeFunc fn first cap).run Tryz.prog w = .ok (.func fn first cap) w := fun _ _ _ _ => rfl
  have hB : Below w.heap.size w (w.alloc (.cells #[.int .i64 N] 3)) := (Below.refl _ _).alloc (Nat.le_refl _) _
  have hc : (w.alloc (.cells #[.int .i64 N] 3)).cell? ⟨w.heap.size, 0, none⟩ = some (.int .i64 N) := (Blk.new w _ _).cell 0
  have HB := Lib.hid hB
  obtain ⟨w1, hw1⟩ : ∃ w1, w1 = w.alloc (.cells #[.int .i64 N] 3) := ⟨_, rfl⟩
  have HC : Hid (Calls Tryz.prog 173 #[.slice a len cap, .func (.func 174) #[] #[.pointer (some ⟨w.heap.size, 0, none⟩)]] w1 fun e w' => e = .returned (.bool (!insideB N zs)) ∧ w' = w1) := Lib.hid (by
    rw [← hw1] at hc hB
    have HI := Lib.hid (idxI_any S a len cap zs N w.heap.size w1 hc (h.below hB) hm1 hm2)
    clear hw1 h hB hc
    go_enter Tryz.func173, Tryz.ntmps173
    have he : zs.any (fun z => decide (z < 0 ∨ N ≤ z)) = !insideB N zs := by
      unfold insideB
      rw [List.not_all_eq_any_not]
      congr 1
      funext z
      by_cases h1 : z < 0 <;> by_cases h2 : N ≤ z <;> simp [h1, h2] <;> omega
    rw [← he]
    rcases idxP_any (p := fun z => decide (z < 0 ∨ N ≤ z)) zs 0 with ⟨h1, h2⟩ | ⟨h1, h2⟩
    · rw [h2]
      rw [show ((0 : Nat) : Int) = 0 from rfl] at h1
      generalize idxP (fun z => decide (z < 0 ∨ N ≤ z)) zs 0 = q at HI h1
      clear h2 he
      go_wp2_with fail
      (with_reducible refine HI.out.mono ?_)
      rintro e w' ⟨rfl, rfl⟩
      go_wp2_with fail
      go_ret
      exact ⟨rfl, rfl⟩
    · rw [h2]
      rw [show ((0 : Nat) : Int) = 0 from rfl] at h1
      rw [h1] at HI
      clear h2 he h1
      go_wp2_with fail
      (with_reducible refine HI.out.mono ?_)
      rintro e w' ⟨rfl, rfl⟩
      go_wp2_with fail
      go_ret
      exact ⟨rfl, rfl⟩)
  clear hB hc h
  go_enter Tryz.func115, Tryz.ntmps115
  obtain ⟨q, hq⟩ : ∃ q, q = insideB N zs := ⟨_, rfl⟩
  rw [← hq] at HC
  rw [← hq]
  clear hq
  go_upto_region 1 with fail
  rw [← hw1] at HB
  rw [← hw1]
  clear hw1
  go_wp2_with fail
  (with_reducible refine HC.out.mono ?_)
  rintro e w' ⟨rfl, rfl⟩
  cases q <;> (go_wp2_with fail; go_ret; exact ⟨rfl, HB.out⟩)
end Go.Proofs.YtnckfjmaochnkaaGreatDoor
namespace Go.Proofs.YtnckfjmaochnkaaGreatDoor
open Go.RowKit
set_option linter.unusedVariables false
set_option linter.unusedSimpArgs false

/-- the signs of directions, as the program's text lays them -/
def SgW (w : World) : Prop := w.cell? ⟨1, 0, none⟩ = some (.int .i64 1) ∧ w.cell? ⟨1, 1, none⟩ = some (.int .i64 (-1))
theorem SgW.lt {w : World} (h : SgW w) : 1 < w.heap.size := World.block_lt_of_cell? w _ h.1
theorem SgW.below {w w' : World} (h : SgW w) (hb : Below w.heap.size w w') : SgW w' := ⟨(hb.cell (p := ⟨1, 0, none⟩) h.lt).trans h.1, (hb.cell (p := ⟨1, 1, none⟩) h.lt).trans h.2⟩

theorem round_any (n i : Int) (w : World) (h4 : 4 ≤ n) (h16 : n ≤ 16) (h0 : 0 ≤ i) (h1 : i ≤ 100) : Calls Tryz.prog 186 #[.int .i64 n, .int .i64 i] w fun e w' => e = .returned (.int .i64 (i % n)) ∧ w' = w := by
  have e1 : i.tmod n = i % n := Int.tmod_eq_emod_of_nonneg h0
  have hm0 := Int.emod_nonneg i (show n ≠ 0 by omega)
  have hm1 := Int.emod_lt_of_pos i (show 0 < n by omega)
  have e2 : (i % n + n).tmod n = i % n := by
    rw [Int.tmod_eq_emod_of_nonneg (by omega), Int.add_emod_right, Int.emod_emod_of_dvd _ (Int.dvd_refl n)]
  have e2' : (i % n + n) % n = i % n := by rw [Int.add_emod_right, Int.emod_emod_of_dvd _ (Int.dvd_refl n)]
  obtain ⟨m, hm⟩ : ∃ m, m = i % n := ⟨_, rfl⟩
  rw [← hm] at e1 hm0 hm1 e2 e2'
  have e3 : i % n = m := hm.symm
  have hn0 : ¬ n = 0 := by omega
  have hn1 : ¬ n = -1 := by omega
  rw [← hm]
  clear hm
  go_enter Tryz.func186, Tryz.ntmps186
  go_wp2
  go_ret
  exact ⟨rfl, rfl⟩
theorem node_any (n i : Int) (w : World) : Calls Tryz.prog 185 #[.int .i64 n, .int .i64 i] w fun e w' => e = .returned (.bool (decide (0 ≤ i ∧ i < n))) ∧ w' = w := by
  go_enter Tryz.func185, Tryz.ntmps185
  by_cases h : 0 ≤ i
  · by_cases h2 : i < n
    · go_wp2
      go_ret
      exact ⟨by simp [h, h2], rfl⟩
    · go_wp2
      go_ret
      exact ⟨by simp [h, h2], rfl⟩
  · go_wp2
    go_ret
    exact ⟨by simp; intro h'; omega, rfl⟩
theorem ring_any (n : Int) (w : World) : Calls Tryz.prog 184 #[.int .i64 n, .int .u8 0] w fun e w' => e = .returned (.bool (decide (4 ≤ n ∧ n ≤ 16))) ∧ w' = w := by
  go_enter Tryz.func184, Tryz.ntmps184
  by_cases h : 4 ≤ n
  · by_cases h2 : n ≤ 16
    · go_wp2
      go_ret
      exact ⟨by simp [h, h2], rfl⟩
    · go_wp2
      go_ret
      exact ⟨by simp [h, h2], rfl⟩
  · go_wp2
    go_ret
    exact ⟨by simp; intro h'; omega, rfl⟩
def stepE (n i : Int) : Int := if (4 ≤ n ∧ n ≤ 16) ∧ (0 ≤ i ∧ i < n) then (i + 1) % n else -1
set_option maxRecDepth 100000 in
set_option maxHeartbeats 1000000 in
theorem step_any (n i : Int) (w : World) (hs : SgW w) : Calls Tryz.prog 133 #[.int .i64 n, .int .u8 0, .int .i64 i, .int .i64 1] w fun e w' => e = .returned (.int .i64 (stepE n i)) ∧ Below w.heap.size w w' := by
  have HR := Lib.hid (ring_any n w)
  have HN := Lib.hid (node_any n i w)
  have hs1 := hs.1
  have hlt := hs.lt
  clear hs
  unfold stepE
  go_enter Tryz.func133, Tryz.ntmps133
  by_cases h : 4 ≤ n ∧ n ≤ 16
  · rw [decide_eq_true h] at HR
    by_cases h2 : 0 ≤ i ∧ i < n
    · rw [decide_eq_true h2] at HN
      rw [if_pos ⟨h, h2⟩]
      obtain ⟨h3, h4⟩ := h
      obtain ⟨h5, h6⟩ := h2
      have e1 : (1 : Int).tmod n = 1 := by rw [Int.tmod_eq_emod_of_nonneg (by omega)]; exact Int.emod_eq_of_lt (by omega) (by omega)
      have e1' : (1 : Int) % n = 1 := Int.emod_eq_of_lt (by omega) (by omega)
      have hn0 : ¬ n = 0 := by omega
      have hn1 : ¬ n = -1 := by omega
      have HD := Lib.hid (fun w' => round_any n (i + 1) w' h3 h4 (by omega) (by omega))
      have w1 : IntKind.i64.wrap (i + 1) = i + 1 := IntWalk.i64_in _ (by omega)
      have w0 : IntKind.i64.wrap 1 = 1 := IntWalk.i64_in _ (by omega)
      go_wp2_with fail
      (with_reducible refine HR.out.mono ?_)
      rintro e w' ⟨rfl, rfl⟩
      go_wp2_with fail
      (with_reducible refine HN.out.mono ?_)
      rintro e w' ⟨rfl, rfl⟩
      go_upto_region 3 with fail
      have FA : Hid (∀ w'' : World, Below w'.heap.size w' w'' → w''.cell? ⟨1, 0, none⟩ = some (.int .i64 1)) := Lib.hid fun w'' hb => (hb.cell (p := ⟨1, 0, none⟩) hlt).trans hs1
      go_region_held3 (fun w'' => w''.cell? ⟨1, 0, none⟩ = some (.int .i64 1))
        (with_reducible (first | assumption | exact FA.out _ (Below.refl _ _).drew))
        ((first | ((with_reducible refine (HD.out _).mono ?_); rintro e w'' ⟨rfl, rfl⟩)))
      go_wp2_with fail
      go_ret
      exact ⟨rfl, (Below.refl _ _).drew⟩
    · rw [decide_eq_false h2] at HN
      rw [if_neg (fun h' => h2 h'.2)]
      clear h2
      go_wp2_with fail
      (with_reducible refine HR.out.mono ?_)
      rintro e w' ⟨rfl, rfl⟩
      go_wp2_with fail
      (with_reducible refine HN.out.mono ?_)
      rintro e w' ⟨rfl, rfl⟩
      go_wp2_with fail
      go_ret
      exact ⟨rfl, Below.refl _ _⟩
  · rw [decide_eq_false h] at HR
    rw [if_neg (fun h' => h h'.1)]
    clear h HN
    go_wp2_with fail
    (with_reducible refine HR.out.mono ?_)
    rintro e w' ⟨rfl, rfl⟩
    go_wp2_with fail
    go_ret
    exact ⟨rfl, Below.refl _ _⟩

/-! ### contained -/
set_option maxRecDepth 100000 in
set_option maxHeartbeats 1000000 in
theorem index_any (S : Nat → Prop) (a : Option Addr) (len cap : Nat) (zs : List Int) (x : Int) (w : World) (h : RdZ S w a len zs) (hm1 : len ≤ cap) (hm2 : cap ≤ maxLen) :
    Calls Tryz.prog 179 #[.slice a len cap, .int .i64 x] w fun e w' => e = .returned (.int .i64 (idxP (fun z => decide (x = z)) zs 0)) ∧ w' = w := by
  unfold maxLen at hm2
  have HR := Lib.hid h
  clear h
  obtain ⟨p, hp⟩ : ∃ p : Int → Bool, p = fun z => decide (x = z) := ⟨_, rfl⟩
  rw [← hp]
  have HP : Hid (∀ z, p z = decide (x = z)) := Lib.hid fun z => by rw [hp]
  clear hp
  go_enter Tryz.func179, Tryz.ntmps179
  go_wp2_with fail
  go_loopw [8] (fun i wr => ∃ k : Nat, k ≤ len ∧ i = .int .i64 k ∧ wr = w ∧ idxP p zs 0 = idxP p (zs.drop k) k) (fun i _ => len - (intOf i).toNat)
  case atStart => exact ⟨0, by omega, rfl, rfl, rfl⟩
  case round =>
    obtain ⟨k, hk, rfl, rfl, he⟩ := hrel
    have HE := Lib.hid he
    clear he
    by_cases hlt : k < len
    · obtain ⟨b, off, z, rfl, -, -, hz, hc⟩ := HR.out.at_ hlt
      have hlt' : (k : Int) < len := by omega
      have hk0 : (0 : Int) ≤ k := by omega
      have HZ := Lib.hid hz
      clear hz
      by_cases hxz : x = z
      · have HN : Hid (idxP p zs 0 = (k : Int)) := Lib.hid (by rw [HE.out, idxP_step HZ.out, if_pos (by rw [HP.out, decide_eq_true hxz])])
        go_wp2_with fail
        go_ret
        rw [HN.out]
        exact ⟨rfl, rfl⟩
      · have HN : Hid (idxP p zs 0 = idxP p (zs.drop (k + 1)) ((k + 1 : Nat) : Int)) := Lib.hid (by rw [HE.out, idxP_step HZ.out, if_neg (by rw [HP.out, decide_eq_false hxz]; decide)])
        go_wp2_with fail
        exact ⟨⟨k + 1, by omega, by go_num, by first | rfl | trivial, HN.out⟩, by simp [intOf]; omega⟩
    · have hlt' : ¬ (k : Int) < len := by omega
      have HN : Hid (idxP p zs 0 = -1) := Lib.hid (by rw [HE.out, List.drop_eq_nil_of_le (by rw [HR.out.1]; omega)]; rfl)
      go_wp2_with fail
      go_ret
      rw [HN.out]
      exact ⟨rfl, rfl⟩
def hasB (x : Int) (zs : List Int) : Bool := zs.any fun z => decide (x = z)
theorem contains_any (S : Nat → Prop) (a : Option Addr) (len cap : Nat) (zs : List Int) (x : Int) (w : World) (h : RdZ S w a len zs) (hm1 : len ≤ cap) (hm2 : cap ≤ maxLen) :
    Calls Tryz.prog 120 #[.slice a len cap, .int .i64 x] w fun e w' => e = .returned (.bool (hasB x zs)) ∧ w' = w := by
  have HI := Lib.hid (index_any S a len cap zs x w h hm1 hm2)
  clear h
  unfold hasB
  go_enter Tryz.func120, Tryz.ntmps120
  rcases idxP_any (p := fun z => decide (x = z)) zs 0 with ⟨h1, h2⟩ | ⟨h1, h2⟩
  · rw [h2]
    rw [show ((0 : Nat) : Int) = 0 from rfl] at h1
    generalize idxP (fun z => decide (x = z)) zs 0 = q at HI h1
    clear h2
    go_wp2_with fail
    (with_reducible refine HI.out.mono ?_)
    rintro e w' ⟨rfl, rfl⟩
    go_wp2_with fail
    go_ret
    exact ⟨rfl, rfl⟩
  · rw [h2]
    rw [show ((0 : Nat) : Int) = 0 from rfl] at h1
    rw [h1] at HI
    clear h2 h1
    go_wp2_with fail
    (with_reducible refine HI.out.mono ?_)
    rintro e w' ⟨rfl, rfl⟩
    go_wp2_with fail
    go_ret
    exact ⟨rfl, rfl⟩

/-! ### sorted -/
theorem less_any (x y : Int) (w : World) : Calls Tryz.prog 175 #[.int .i64 x, .int .i64 y] w fun e w' => e = .returned (.bool (decide (x < y))) ∧ w' = w := by
  have HN : Hid (∀ z w, Calls Tryz.prog 224 #[.int .i64 z] w fun e w' => e = .returned (.bool false) ∧ w' = w) := Lib.hid fun z w => by
    go_enter Tryz.func224, Tryz.ntmps224
    go_wp2
    go_ret
    exact ⟨rfl, rfl⟩
  go_enter Tryz.func175, Tryz.ntmps175
  go_wp2_with fail
  (with_reducible refine (HN.out _ _).mono ?_)
  rintro e w' ⟨rfl, rfl⟩
  go_wp2_with fail
  go_ret
  exact ⟨rfl, rfl⟩
def sortedB (zs : List Int) : Bool := (List.range (zs.length - 1)).all fun i => decide (zs.getD i 0 ≤ zs.getD (i + 1) 0)
set_option maxRecDepth 100000 in
set_option maxHeartbeats 1000000 in
theorem sorted_any (S : Nat → Prop) (a : Option Addr) (len cap : Nat) (zs : List Int) (w : World) (h : RdZ S w a len zs) (hm1 : len ≤ cap) (hm2 : cap ≤ maxLen) :
    Calls Tryz.prog 116 #[.slice a len cap] w fun e w' => e = .returned (.bool (sortedB zs)) ∧ Below w.heap.size w w' := by
  unfold maxLen at hm2
  have HR := Lib.hid h
  have hzl := h.1
  clear h
  have wl : IntKind.i64.wrap ((len : Int) - 1) = (len : Int) - 1 := IntWalk.i64_in _ (by omega)
  go_enter Tryz.func116, Tryz.ntmps116
  go_wp2_with fail
  go_loopw [3] (fun i wr => ∃ j : Int, i = .int .i64 j ∧ j ≤ (len : Int) - 1 ∧ -1 ≤ j ∧ Below w.heap.size w wr ∧ ∀ m : Nat, j ≤ m → m + 1 < len → zs.getD m 0 ≤ zs.getD (m + 1) 0) (fun i _ => (intOf i).toNat)
  case atStart => exact ⟨(len : Int) - 1, rfl, by omega, by omega, Below.refl _ _, fun m h1 h2 => by omega⟩
  case round =>
    obtain ⟨j, rfl, hj1, hj2, hb, hm⟩ := hrel
    have HB := Lib.hid hb
    have HM := Lib.hid hm
    clear hb hm
    by_cases hj : 0 < j
    · obtain ⟨k, rfl⟩ : ∃ k : Nat, j = ((k + 1 : Nat) : Int) := ⟨(j - 1).toNat, by omega⟩
      have hk1 : k + 1 < len := by omega
      obtain ⟨b, off, z1, rfl, -, hbl, hz1, hc1⟩ := HR.out.at_ hk1
      obtain ⟨b', off', z0, he, -, -, hz0, hc0⟩ := HR.out.at_ (show k < len by omega)
      cases he
      have HZ := Lib.hid (And.intro hz0 hz1)
      have FC : Hid (∀ w', Below w.heap.size w w' → w'.cell? ⟨b, off + (k + 1), none⟩ = some (.int .i64 z1) ∧ w'.cell? ⟨b, off + k, none⟩ = some (.int .i64 z0)) := Lib.hid fun w' hb => ⟨(hb.cell (p := ⟨b, off + (k + 1), none⟩) hbl).trans hc1, (hb.cell (p := ⟨b, off + k, none⟩) hbl).trans hc0⟩
      have HL := Lib.hid (less_any z1 z0)
      have wk : IntKind.i64.wrap (((k + 1 : Nat) : Int) - 1) = (k : Int) := by rw [IntWalk.i64_in _ (by omega)]; omega
      have wk' : IntKind.i64.wrap ((k : Int) + 1 - 1) = (k : Int) := by rw [IntWalk.i64_in _ (by omega)]; omega
      have wk2 : IntKind.i64.wrap (k : Int) = (k : Int) := IntWalk.i64_in _ (by omega)
      have hk2 : ((k + 1 : Nat) : Int) < len := by omega
      have hk3 : (k : Int) < len := by omega
      have hk0 : (0 : Int) ≤ k := by omega
      have hk5 : (k : Int) + 1 < len := by omega
      have hk6 : (0 : Int) ≤ (k : Int) + 1 := by omega
      have hk7 : (0 : Int) < (k : Int) + 1 := by omega
      clear hz0 hz1 hc1 hc0
      go_upto_region 4 with fail
      go_region_held3 (fun w' => w'.cell? ⟨b, off + (k + 1), none⟩ = some (.int .i64 z1) ∧ w'.cell? ⟨b, off + k, none⟩ = some (.int .i64 z0))
        (with_reducible (first | assumption | exact FC.out _ HB.out.drew))
        ((first | ((with_reducible refine (HL.out _).mono ?_); rintro e w'' ⟨rfl, rfl⟩)))
      have HW : Hid (Below w.heap.size w wr.drew) := Lib.hid HB.out.drew
      have g0 : zs.getD k 0 = z0 := by rw [List.getD_eq_getElem?_getD, HZ.out.1]; rfl
      have g1 : zs.getD (k + 1) 0 = z1 := by rw [List.getD_eq_getElem?_getD, HZ.out.2]; rfl
      have HG := Lib.hid (And.intro g0 g1)
      clear g0 g1
      by_cases hlt : z1 < z0
      · have HN : Hid (sortedB zs = false) := Lib.hid (by
          unfold sortedB
          rw [List.all_eq_false]
          refine ⟨k, List.mem_range.2 (by omega), ?_⟩
          rw [HG.out.1, HG.out.2]
          simpa using hlt)
        go_wp2_with fail
        go_ret
        rw [HN.out]
        exact ⟨rfl, HW.out⟩
      · have HM2 : Hid (∀ m : Nat, (k : Int) ≤ m → m + 1 < len → zs.getD m 0 ≤ zs.getD (m + 1) 0) := Lib.hid fun m h1 h2 => by
          by_cases hmk : m = k
          · subst hmk
            rw [HG.out.1, HG.out.2]
            omega
          · exact HM.out m (by omega) h2
        go_wp2_with fail
        exact ⟨⟨(k : Int), by go_num, by omega, by omega, HW.out, HM2.out⟩, by simp [intOf] <;> omega⟩
    · have HN : Hid (sortedB zs = true) := Lib.hid (by
        unfold sortedB
        rw [List.all_eq_true]
        intro m hm
        have := List.mem_range.1 hm
        exact decide_eq_true (HM.out m (by omega) (by omega)))
      have hj' : j ≤ 0 := by omega
      go_wp2_with fail
      go_ret
      rw [HN.out]
      exact ⟨rfl, HB.out⟩
end Go.Proofs.YtnckfjmaochnkaaGreatDoor
