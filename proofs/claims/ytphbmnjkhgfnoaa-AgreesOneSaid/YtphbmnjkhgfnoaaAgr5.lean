/-
  sennitlaw15.spoil; sennitref15.has.
-/
import Derived.Test.YtphbmnjkhgfnoaaAgr4
namespace Go.Proofs.Ytphbmnjkhgfnoaa
open Go.RowKit
set_option linter.unusedVariables false
set_option linter.unusedSimpArgs false

theorem flatH_two {l : List Hd} (h : ∀ x ∈ l, x.ok) {k : Nat} {is : Bool} {c : Value} {r : List Value} (hk : l[k]? = some ⟨is, c :: r⟩) (is' : Bool) (c' : Value) :
    ((flatH l).toArray.setIfInBounds (k * 56 + 1) c').setIfInBounds (k * 56) (.bool is') = (flatH (l.set k ⟨is', c' :: r⟩)).toArray := by
  have hkl : k < l.length := (List.getElem?_eq_some_iff.1 hk).1
  have e1 : l = l.take k ++ ⟨is, c :: r⟩ :: l.drop (k + 1) := by
    have := List.getElem?_eq_some_iff.1 hk
    obtain ⟨_, h2⟩ := this
    rw [← h2, List.getElem_cons_drop, List.take_append_drop]
  have hA : (flatH (l.take k)).length = k * 56 := by
    rw [len_flatH (fun x hx => h x (List.mem_of_mem_take hx))]
    simp; omega
  have e2 : l.set k ⟨is', c' :: r⟩ = l.take k ++ ⟨is', c' :: r⟩ :: l.drop (k + 1) := by
    conv => lhs; rw [e1]
    rw [List.set_append, if_neg (by simp; omega)]
    have e0 : k - (l.take k).length = 0 := by simp; omega
    rw [e0]; rfl
  rw [e2]
  conv => lhs; rw [e1]
  rw [flatH_append, flatH_append]
  simp only [List.setIfInBounds_toArray]
  rw [List.set_append, if_neg (by omega), List.set_append, if_neg (by omega), hA]
  rw [show k * 56 + 1 - k * 56 = 1 from by omega, Nat.sub_self]
  simp [flatH, Hd.vals]

set_option maxRecDepth 100000 in
set_option maxHeartbeats 4000000 in
theorem vspoil_blk (g : Nat) (l : List Hd) (w : World) (hb : Blk w g 60 (flatH l).toArray) (hl : ∀ x ∈ l, x.ok) (hm : l.length ≤ maxLen) :
    Calls Try.prog 25 #[.slice (some ⟨g, 0, none⟩) l.length l.length] w fun e w' => (∃ v, e = .returned v) ∧ Chg (· = g) w w' := by
  unfold maxLen at hm
  obtain ⟨len, hll⟩ : ∃ n, n = l.length := ⟨_, rfl⟩
  rw [← hll] at hm ⊢
  have HS := Lib.hid (show ∃ l', l'.length = len ∧ (∀ x ∈ l', x.ok) ∧ Blk w g 60 (flatH l').toArray from ⟨l, hll.symm, hl, hb⟩)
  have hcc : ((len : Nat) : Int) ≤ (len : Int) := Int.le_refl _
  clear hb hl hll l
  go_enter Try.func25, Try.ntmps25
  go_wp2
  go_loopw [3] (fun i wr => ∃ k : Nat, k ≤ len ∧ i = .int .i64 k ∧ (∃ l', l'.length = len ∧ (∀ x ∈ l', x.ok) ∧ Blk wr g 60 (flatH l').toArray) ∧ Chg (· = g) w wr) (fun i _ => len - (intOf i).toNat)
  case atStart => exact ⟨0, by omega, rfl, HS.out, Chg.refl _ _⟩
  case round =>
    obtain ⟨k, hk, rfl, ⟨l', hl', hok, hb⟩, hC⟩ := hrel
    by_cases hlt : k < len
    · obtain ⟨x, hx⟩ : ∃ x, l'[k]? = some x := ⟨_, List.getElem?_eq_getElem (by omega)⟩
      have hxo := hok x (List.mem_of_getElem? hx)
      obtain ⟨is, c⟩ := x
      cases c with
      | nil => have := okL_len hxo; simp [len_cellK] at this
      | cons c r =>
        have hrd : RdHs (· = g) wr (some ⟨g, 0, none⟩) l'.length l' := RdHs.of_blk (r := []) (by simpa using hb) hok
        obtain ⟨b, off, is', n, r', hbo, -, hbw, hv, hok', hrl, hrc1, -, -, -, -, hr5, hr6, -⟩ := hrd.at_ k (by omega)
        cases hbo
        rw [hx] at hv
        simp only [Option.some.injEq, Hd.mk.injEq, List.cons.injEq, true_and] at hv
        obtain ⟨rfl, rfl, rfl⟩ := hv
        simp only [Nat.zero_add] at hr5 hr6
        have hf : ∀ i, wr.frozen? ⟨g, i, none⟩ = false := hb.frozen
        have hb1 := (hb.set_ (k * 56 + 1) (.int .i64 (-99))).set_ (k * 56) (.bool !is)
        rw [flatH_two hok hx] at hb1
        have hxo' : Hd.ok ⟨!is, Value.int .i64 (-99) :: r⟩ := by
          have h1 := hxo
          simp only [Hd.ok, cellK, okL, Bool.and_eq_true] at h1 ⊢
          exact ⟨by decide, h1.2⟩
        have HN := Lib.hid (And.intro (show ∃ l'', l''.length = len ∧ (∀ x ∈ l'', x.ok) ∧ Blk ((wr.setCell ⟨g, k * 56 + 1, none⟩ (.int .i64 (-99))).setCell ⟨g, k * 56, none⟩ (.bool !is)) g 60 (flatH l'').toArray from ⟨_, by simp [hl'], ok_set hok k hxo', hb1⟩) ((hC.set_at (k * 56 + 1) (.int .i64 (-99))).set_at (k * 56) (.bool !is)))
        clear hb1 hxo' hb hC hok hxo hx hok' hrd hrl hrc1 hl'
        go_wp2
        exact ⟨⟨k + 1, by omega, by go_num, HN.out.1, HN.out.2⟩, by simp [intOf]; omega⟩
    · have hkl : k = len := by omega
      subst hkl
      have H := Lib.hid hC
      clear hC hb
      go_wp2
      go_end0
      exact ⟨⟨_, rfl⟩, H.out⟩

/-- what row k's table has of s, as it lies there -/
def hasH (l : List Rw) (k s : Nat) : Hd := match l[k]? with
  | some r => if r.is then (match r.t[s]? with | some h => h | none => hd0) else hd0
  | none => hd0
theorem hasC_hasH (l : List Rw) (k s : Nat) : hasC l k s = if (hasH l k s).is then some (hasH l k s).c else none := by
  unfold hasC hasH
  cases hv : l[k]? with
  | none => simp [hd0]
  | some r =>
    by_cases his : r.is = true
    · simp only [his, if_true]
      cases ht : r.t[s]? with
      | none => simp [hd0]
      | some h => simp
    · simp [his, hd0]
theorem hasH_ok {l : List Rw} (h : ∀ r ∈ l, r.ok) (k s : Nat) : (hasH l k s).ok := by
  unfold hasH
  cases hv : l[k]? with
  | none => exact hd0_ok
  | some r =>
    by_cases his : r.is = true
    · simp only [his, if_true]
      cases ht : r.t[s]? with
      | none => exact hd0_ok
      | some x => exact (h r (List.mem_of_getElem? hv)).2 x (List.mem_of_getElem? ht)
    · simp only [his, Bool.false_eq_true, if_false]; exact hd0_ok

set_option maxRecDepth 100000 in
set_option maxHeartbeats 4000000 in
theorem rhas_any (S : Nat → Prop) (k s : Nat) (hk : k ≤ 100) (hs : s ≤ 100) (a : Option Addr) (len cap : Nat) (l : List Rw) (w : World) (hrd : RdRs S w a len l) (hm1 : len ≤ cap) (hm2 : cap ≤ maxLen) :
    Calls Try.prog 57 #[.slice a len cap, .int .i64 k, .int .i64 s] w fun e w' => e = .returned (.agg (hasH l k s).vals.toArray) ∧ Below w.heap.size w w' := by
  unfold maxLen at hm2
  have hll : l.length = len := hrd.1
  obtain ⟨x, hx⟩ : ∃ x, x = hasH l k s := ⟨_, rfl⟩
  rw [← hx]
  have hxo : x.ok := by rw [hx]; exact hasH_ok hrd.2.1 k s
  have hxl := Hd.vals_len hxo
  have hxc := Hd.cell1 hxo
  have hB0 : Below w.heap.size w (w.alloc (.cells heldZ.toArray 127)) := (Below.refl _ _).alloc (Nat.le_refl _) _
  have hb0 : Blk (w.alloc (.cells heldZ.toArray 127)) w.heap.size 127 heldZ.toArray := Blk.new _ _ _
  have hfin : ∀ w1, Below w.heap.size w w1 → Blk w1 w.heap.size 127 heldZ.toArray → canPut w1 ⟨w.heap.size, 0, none⟩ 56 = true ∧ hasRow (putRow w1 ⟨w.heap.size, 0, none⟩ x.vals) ⟨w.heap.size, 0, none⟩ 56 = true ∧ rowOf (putRow w1 ⟨w.heap.size, 0, none⟩ x.vals) ⟨w.heap.size, 0, none⟩ 56 = x.vals ∧ Below w.heap.size w (putRow w1 ⟨w.heap.size, 0, none⟩ x.vals) := fun w1 hB hb => by
    obtain ⟨-, -, p3⟩ := hb.whole (n := 56) len_heldZ
    obtain ⟨p1, p2, -⟩ := (hb.put_all (l := x.vals) (by rw [len_heldZ, hxl])).whole (n := 56) hxl
    exact ⟨p3, p1, p2, Below.put hB (p := ⟨w.heap.size, 0, none⟩) (Nat.le_refl _) _⟩
  obtain ⟨p0, p1, p2, p3⟩ := hfin _ hB0 hb0
  have hrd0 := hrd.below hB0 (fun _ _ h => h)
  have HX := Lib.hid (And.intro hx hrd0)
  have HP := Lib.hid (And.intro p1 (And.intro p2 p3))
  clear hrd hrd0 hx hfin hB0 hb0 p1 p2 p3
  go_enter Try.func57, Try.ntmps57
  go_upto_region 1 with fail
  generalize w.alloc (.cells heldZ.toArray 127) = w0 at HX HP p0 ⊢
  by_cases hkl : k < len
  · obtain ⟨b, off, y, m, cp, r, rfl, hS, hbw, hv, hok, hrl, hrc1, hr1, hr2, hr3, hr4, hr5, hr6, hr7⟩ := HX.out.2.at_ k hkl
    have hkl1 : ¬ (len : Int) ≤ (k : Int) := by omega
    have hml : r.t.length = m := hr5.1
    by_cases his : r.is = true
    · rw [his] at hr3
      by_cases hsm : s < m
      · obtain ⟨b', off', is', n', rr, rfl, -, hbw', hv', hok', hrl', hrc1', hs1, hs2, -, -, -, -, -⟩ := hr5.at_ s hsm
        have hsm1 : ¬ (m : Int) ≤ (s : Int) := by omega
        have e : x = ⟨is', .int .i64 n' :: rr⟩ := by
          rw [HX.out.1]; unfold hasH; rw [hv]; simp only [his, if_true, hv']
        have hs2' : rowOf w0 ⟨b', off' + s * 56, none⟩ 56 = x.vals := by rw [e, hs2]; rfl
        clear hr1 hr2 hr5 hv hok hv' hok' hs2 e hrl hrc1 hrl' hrc1' his hml
        go_wp2_with fail
        try simp only [Exit.inBlock, Exit.then]
        first | refine bodyPost_ret (ret_row (n := 56) rfl (by kernel_rfl) _ _ _ rfl ?_) rfl ?_ | refine bodyPost_end (ret_row (n := 56) rfl (by kernel_rfl) _ _ _ rfl ?_) rfl ?_
        · exact HP.out.1
        · rw [HP.out.2.1]; exact ⟨rfl, HP.out.2.2⟩
      · have hsm1 : (m : Int) ≤ (s : Int) := by omega
        have e : x = hd0 := by
          rw [HX.out.1]; unfold hasH; rw [hv]; simp only [his, if_true]
          rw [List.getElem?_eq_none (by omega)]
        have hzv : heldZ = x.vals := by rw [e, hd0_vals]
        have HZ := Lib.hid hzv
        clear hr1 hr2 hr5 hv hok e hrl hrc1 his hml hzv
        go_wp2_with fail
        try simp only [Exit.inBlock, Exit.then]
        first | refine bodyPost_ret (ret_row (n := 56) rfl (by kernel_rfl) _ _ _ rfl ?_) rfl ?_ | refine bodyPost_end (ret_row (n := 56) rfl (by kernel_rfl) _ _ _ rfl ?_) rfl ?_
        · rw [HZ.out]; exact HP.out.1
        · rw [HZ.out, HP.out.2.1]; exact ⟨rfl, HP.out.2.2⟩
    · have hisf : r.is = false := by simpa using his
      rw [hisf] at hr3
      have e : x = hd0 := by
        rw [HX.out.1]; unfold hasH; rw [hv]; simp only [hisf]; rfl
      have hzv : heldZ = x.vals := by rw [e, hd0_vals]
      have HZ := Lib.hid hzv
      clear hr1 hr2 hr5 hv hok e hrl hrc1 his hml hzv hisf
      go_wp2_with fail
      try simp only [Exit.inBlock, Exit.then]
      first | refine bodyPost_ret (ret_row (n := 56) rfl (by kernel_rfl) _ _ _ rfl ?_) rfl ?_ | refine bodyPost_end (ret_row (n := 56) rfl (by kernel_rfl) _ _ _ rfl ?_) rfl ?_
      · rw [HZ.out]; exact HP.out.1
      · rw [HZ.out, HP.out.2.1]; exact ⟨rfl, HP.out.2.2⟩
  · have hkl1 : (len : Int) ≤ (k : Int) := by omega
    have e : x = hd0 := by
      rw [HX.out.1]; unfold hasH; rw [List.getElem?_eq_none (by omega)]
    have hzv : heldZ = x.vals := by rw [e, hd0_vals]
    have HZ := Lib.hid hzv
    clear e hzv
    go_wp2_with fail
    try simp only [Exit.inBlock, Exit.then]
    first | refine bodyPost_ret (ret_row (n := 56) rfl (by kernel_rfl) _ _ _ rfl ?_) rfl ?_ | refine bodyPost_end (ret_row (n := 56) rfl (by kernel_rfl) _ _ _ rfl ?_) rfl ?_
    · rw [HZ.out]; exact HP.out.1
    · rw [HZ.out, HP.out.2.1]; exact ⟨rfl, HP.out.2.2⟩
end Go.Proofs.Ytphbmnjkhgfnoaa
