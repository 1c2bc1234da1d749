/-
  A cell made plain: sennitref13.Cell. words.held, words.may, words.filled of a table, words.Plain.
-/
import Derived.Test.YtnckfjmaochnkaaGreatDoorGd05
import Derived.Deep.Cut
import Derived.Deep.CutRange
namespace Go.Proofs.YtnckfjmaochnkaaGreatDoor
open Go.RowKit
set_option linter.unusedVariables false
set_option linter.unusedSimpArgs false

def RCS (w : World) (c : Cl) (wr : World) : Prop :=
  Blk wr w.heap.size 116 c.vals.toArray ∧ Blk wr (w.heap.size + 1) 116 cellZ.toArray ∧ Below w.heap.size w wr
theorem RCS.below {w : World} {c : Cl} {wr w' : World} (h : RCS w c wr) (hb : Below wr.heap.size wr w') : RCS w c w' :=
  ⟨h.1.below hb h.1.lt, h.2.1.below hb h.2.1.lt, h.2.2.trans (hb.mono h.2.2.size)⟩
theorem RCS.set0 {w : World} {c : Cl} {wr : World} (h : RCS w c wr) (n : Int) : RCS w { c with age := n } (wr.setCell ⟨w.heap.size, 0, none⟩ (.int .i64 n)) := by
  have h1 := h.1.set_ 0 (.int .i64 n)
  rw [Cl.set0] at h1
  exact ⟨h1, h.2.1.far (by simp) _, h.2.2.trans ((Chg.refl (· = w.heap.size) wr).set_at 0 _ |>.below h.2.2.size (fun k hk => by omega))⟩
theorem RCS.set53 {w : World} {c : Cl} {wr : World} (hv : c.v.length = 40) (h : RCS w c wr) (n : Int) : RCS w { c with cmd := n } (wr.setCell ⟨w.heap.size, 53, none⟩ (.int .i8 n)) := by
  have h1 := h.1.set_ 53 (.int .i8 n)
  rw [Cl.set53 hv] at h1
  exact ⟨h1, h.2.1.far (by simp) _, h.2.2.trans ((Chg.refl (· = w.heap.size) wr).set_at 53 _ |>.below h.2.2.size (fun k hk => by omega))⟩
theorem RCS.set54 {w : World} {c : Cl} {wr : World} (hv : c.v.length = 40) (h : RCS w c wr) (n : Int) : RCS w { c with mode := n } (wr.setCell ⟨w.heap.size, 54, none⟩ (.int .u8 n)) := by
  have h1 := h.1.set_ 54 (.int .u8 n)
  rw [Cl.set54 hv] at h1
  exact ⟨h1, h.2.1.far (by simp) _, h.2.2.trans ((Chg.refl (· = w.heap.size) wr).set_at 54 _ |>.below h.2.2.size (fun k hk => by omega))⟩
theorem Blk.far_put {w : World} {g : Nat} {t : TypeId} {cs : Array Value} (h : Blk w g t cs) {p : Addr} (hp : g ≠ p.block) (l : List Value) : Blk (putRow w p l) g t cs := (putRow_other w p l g hp).trans h
theorem RCS.put1 {w : World} {c : Cl} {wr : World} (h : RCS w c wr) (s : Sd) : RCS w { c with o := s } (putRow wr ⟨w.heap.size, 1, none⟩ s.vals) := by
  have h1 := h.1.put 1 s.vals
  rw [Cl.put_o] at h1
  exact ⟨h1, h.2.1.far_put (by simp) _, Below.put h.2.2 (by simp) _⟩
theorem RCS.put7 {w : World} {c : Cl} {wr : World} (h : RCS w c wr) (s : Sd) : RCS w { c with r := s } (putRow wr ⟨w.heap.size, 7, none⟩ s.vals) := by
  have h1 := h.1.put 7 s.vals
  rw [Cl.put_r] at h1
  exact ⟨h1, h.2.1.far_put (by simp) _, Below.put h.2.2 (by simp) _⟩

end Go.Proofs.YtnckfjmaochnkaaGreatDoor
namespace Go.Proofs.YtnckfjmaochnkaaGreatDoor
open Go.RowKit
set_option linter.unusedVariables false
set_option linter.unusedSimpArgs false

@[go_sem] theorem heldZ_cell1 : heldZ.all cell1 = true := by kernel_rfl
@[go_sem] theorem rowZ_cell1 : rowZ.all cell1 = true := by kernel_rfl
theorem okL_v {c : Cl} (hv : c.v.length = 40) (h : okL cellK c.vals = true) : c.v.all cell1 = true := okL_cell1 ((cell_ok_parts hv).1 h).2.2.2.1
theorem cellL_any (c : List Value) (h : okL cellK c = true) (w : World) : Calls Tryz.prog 106 #[.agg c.toArray] w fun e w' => e = .returned (.agg (nrm c).toArray) ∧ Below w.heap.size w w' := by
  obtain ⟨C, rfl, hC⟩ := cell_of h
  rw [nrm_vals C hC]
  exact cell_any C hC (okL_v hC h) w
theorem may_any (n : Int) (w : World) : Calls Tryz.prog 105 #[.int .i64 n] w fun e w' => e = .returned (.bool (mayN n)) ∧ w = w' := by
  by_cases h0 : 0 ≤ n
  · have e : mayN n = decide (n ≤ 16) := by simp [mayN, h0]
    rw [e]
    go_enter Tryz.func105, Tryz.ntmps105
    go_wp2_with fail
    go_ret
    exact ⟨rfl, rfl⟩
  · have e : mayN n = false := by simp [mayN]; omega
    rw [e]
    go_enter Tryz.func105, Tryz.ntmps105
    go_wp2_with fail
    go_ret
    exact ⟨rfl, rfl⟩

theorem Hd.cell1 {h : Hd} (hk : h.ok) : h.vals.all cell1 = true := by
  have := okL_cell1 hk
  simp only [Hd.vals, List.all_cons, cell1_bool, Bool.true_and]
  exact this

set_option maxRecDepth 100000 in
theorem held_any (h : Hd) (hk : h.ok) (w : World) : Calls Tryz.prog 108 #[.agg h.vals.toArray] w fun e w' => e = .returned (.agg h.nrm.vals.toArray) ∧ Below w.heap.size w w' := by
  obtain ⟨is, c⟩ := h
  have hl : c.length = 55 := Hd.ok_len hk
  have hB : ∀ (l z : List Value) (t t' : TypeId), Below w.heap.size w ((w.alloc (.cells l.toArray t)).alloc (.cells z.toArray t')) := said_frame w
  have HB := Lib.hid hB
  have HK := Lib.hid hk
  clear hB hk
  cases is with
  | false =>
    simp only [Hd.vals]
    go_enter Tryz.func108, Tryz.ntmps108
    go_wp2_with fail
    try simp only [Exit.inBlock, Exit.then]
    first | refine bodyPost_ret (ret_row (n := 56) rfl (by kernel_rfl) _ _ _ rfl ?_) rfl ?_ | refine bodyPost_end (ret_row (n := 56) rfl (by kernel_rfl) _ _ _ rfl ?_) rfl ?_
    · simp [go_sem]
    · refine ⟨?_, HB.out _ _ _ _⟩
      have e : List.take 55 cellZ = cellZ := List.take_of_length_le (by rw [len_cellZ]; omega)
      simp [go_sem, Hd.nrm, hd0, heldZ, e]
  | true =>
    have hn : Hd.nrm ⟨true, c⟩ = ⟨true, nrm c⟩ := rfl
    rw [hn]
    simp only [Hd.vals]
    have hnl : (nrm c).length = 55 := (okL_len (nrm_ok HK.out)).trans len_cellK
    have hn1 := okL_cell1 (nrm_ok HK.out)
    have ht : List.take 55 c = c := List.take_of_length_le (by omega)
    go_enter Tryz.func108, Tryz.ntmps108
    go_wp2_with fail
    refine (cellL_any c HK.out _).mono ?_
    rintro e w1 ⟨rfl, hb1⟩
    have hg : Blk w1 (w.heap.size + 1) 152 heldZ.toArray := by
      have := Blk.new (w.alloc (.cells (Value.bool true :: c).toArray 152)) 152 heldZ.toArray
      have e : (w.alloc (.cells (Value.bool true :: c).toArray 152)).heap.size = w.heap.size + 1 := by simp
      rw [e] at this
      exact this.below hb1 (by simp)
    obtain ⟨-, -, k3⟩ := hg.whole len_heldZ
    have hp := hg.put_all (l := .bool true :: nrm c) (by simp [len_heldZ, hnl])
    obtain ⟨p1, p2, -⟩ := hp.whole (n := 56) (by simp [hnl])
    have H := Lib.hid (And.intro p1 (And.intro p2 (Below.put ((HB.out _ _ _ _).trans (hb1.mono (by simp; omega))) (p := ⟨w.heap.size + 1, 0, none⟩) (by simp) (.bool true :: nrm c))))
    clear hg hp p1 p2 hb1
    go_wp2_with fail
    try simp only [Exit.inBlock, Exit.then]
    first | refine bodyPost_ret (ret_row (n := 56) rfl (by kernel_rfl) _ _ _ rfl ?_) rfl ?_ | refine bodyPost_end (ret_row (n := 56) rfl (by kernel_rfl) _ _ _ rfl ?_) rfl ?_
    · exact H.out.1
    · exact ⟨by rw [H.out.2.1], H.out.2.2⟩

def fillK (N k : Nat) (l : List Hd) : List Hd := (l.take k).map Hd.nrm ++ List.replicate (N - k) hd0
theorem fillK_len {N k : Nat} {l : List Hd} (h1 : k ≤ N) (h2 : k ≤ l.length) : (fillK N k l).length = N := by simp [fillK]; omega
theorem fillK_ok {N k : Nat} {l : List Hd} (h : ∀ x ∈ l, x.ok) : ∀ x ∈ fillK N k l, x.ok := fun x hx => by
  rcases List.mem_append.1 hx with hx | hx
  · obtain ⟨y, hy, rfl⟩ := List.mem_map.1 hx
    exact Hd.nrm_ok (h y (List.mem_of_mem_take hy))
  · rw [List.eq_of_mem_replicate hx]; exact hd0_ok
theorem fillK_set {N k : Nat} {l : List Hd} {x : Hd} (h1 : k < N) (hx : l[k]? = some x) : (fillK N k l).set k x.nrm = fillK N (k + 1) l := by
  have h2 : k < l.length := (List.getElem?_eq_some_iff.1 hx).1
  unfold fillK
  rw [List.take_add_one, hx]
  have e : N - k = (N - (k + 1)) + 1 := by omega
  rw [e, List.replicate_succ, List.set_append, if_neg (by simp; omega)]
  have e2 : k - ((l.take k).map Hd.nrm).length = 0 := by simp; omega
  rw [e2]
  simp
theorem fillK_end (N : Nat) (l : List Hd) : fillK N (min N l.length) l = fillH N l := by
  unfold fillK fillH
  by_cases h : N ≤ l.length
  · rw [Nat.min_eq_left h]; simp; omega
  · rw [Nat.min_eq_right (by omega), List.take_of_length_le (by omega), List.take_of_length_le (by omega)]

set_option maxRecDepth 100000 in
set_option maxHeartbeats 1000000 in
theorem fillh_any (S : Nat → Prop) (N : Nat) (hN : N ≤ 16) (a : Option Addr) (len cap : Nat) (l : List Hd) (w : World) (hrd : RdHs S w a len l) (hm1 : len ≤ cap) (hm2 : cap ≤ maxLen) :
    Calls Tryz.prog 107 #[.int .i64 N, .slice a len cap, .func (.func 108) #[] #[]] w fun e w' => e = .returned (.slice (some ⟨w.heap.size, 0, none⟩) N N) ∧ Blk w' w.heap.size 152 (flatH (fillH N l)).toArray ∧ Below w.heap.size w w' := by
  have hl : l.length = len := hrd.1
  unfold maxLen at hm2
  have HR := Lib.hid hrd
  clear hrd
  have hN1 : N ≤ 1048576 := by omega
  obtain ⟨M, hM⟩ : ∃ M, M = min N len := ⟨_, rfl⟩
  go_enter Tryz.func107, Tryz.ntmps107
  go_wp2_with fail
  case' inl => have e14 : (len : Int) = (M : Int) := by omega
  case' inr => have e14 : (N : Int) = (M : Int) := by omega
  all_goals
    have hst : ∀ z, z = zrep heldZ N → Blk (w.alloc (.cells z.toArray 152)) w.heap.size 152 (flatH (fillK N 0 l)).toArray ∧ Below w.heap.size w (w.alloc (.cells z.toArray 152)) := by
      rintro z rfl
      rw [flatH_rep]
      have : fillK N 0 l = List.replicate N hd0 := by simp [fillK]
      rw [this]
      exact ⟨Blk.new _ _ _, (Below.refl _ _).alloc (Nat.le_refl _) _⟩
    have hM1 : M ≤ N := by omega
    have hM2 : M ≤ len := by omega
    have HS := Lib.hid hst
    have HM := Lib.hid hM
    clear hM hst
  case' inl => rw [e14]
  case' inr => rw [show (Value.int .i64 (N : Int)) = Value.int .i64 (M : Int) from by rw [e14]]
  all_goals
    clear e14
    go_loopw [15] (fun i wr => ∃ k : Nat, k ≤ M ∧ i = .int .i64 k ∧ Blk wr w.heap.size 152 (flatH (fillK N k l)).toArray ∧ Below w.heap.size w wr) (fun i _ => M - (intOf i).toNat)
    case atStart => exact ⟨0, by omega, rfl, HS.out _ rfl⟩
    case round =>
      obtain ⟨k, hk, rfl, hb, hB⟩ := hrel
      by_cases hlt : k < M
      · obtain ⟨b, off, is, n, r, rfl, hS, hbw, hv, hok, hrl, hrc1, hr1, hr2, -⟩ := HR.out.at_ k (by omega)
        have d := row_below hB (p := ⟨b, off + k * 56, none⟩) hbw 56
        have d1 := d.1.trans hr1
        have d2 := d.2.trans hr2
        have hkN : k < N := by omega
        have hkl : k < len := by omega
        have hcall := held_any ⟨is, .int .i64 n :: r⟩ hok wr
        obtain ⟨y, hy⟩ : ∃ y, y = Hd.nrm ⟨is, .int .i64 n :: r⟩ := ⟨_, rfl⟩
        have hyk : y.ok := by rw [hy]; exact Hd.nrm_ok hok
        have hyl := Hd.vals_len hyk
        have hyc := Hd.cell1 hyk
        rw [← hy] at hcall
        have hset := fillK_set hkN hv
        rw [← hy] at hset
        have hlen := len_flatH (fillK_ok (N := N) (k := k) HR.out.2.1)
        rw [fillK_len (by omega) (by omega)] at hlen
        have hfs := flatH_set (fillK_ok (N := N) (k := k) HR.out.2.1) (k := k) (by rw [fillK_len (by omega) (by omega)]; omega) y hyk
        rw [hset] at hfs
        have HC := Lib.hid hcall
        have HH := Lib.hid (And.intro hb (And.intro hB (And.intro hfs hlen)))
        clear d hr1 hr2 hv hok hrc1 hcall hset hfs hlen hb hB hy hyk
        go_wp2_with fail
        refine HC.out.mono ?_
        rintro e w1 ⟨rfl, hb1⟩
        have hbk := HH.out.1.below hb1 HH.out.1.lt
        have hcp : canPut w1 ⟨w.heap.size, k * 56, none⟩ 56 = true := by
          obtain ⟨-, -, -, -, h5⟩ := hbk.rules
          rw [h5, HH.out.2.2.2]
          have : (k + 1) * 56 ≤ N * 56 := Nat.mul_le_mul_right _ hkN
          simp; omega
        have hnew := hbk.put (k * 56) y.vals
        have hnew2 : Blk (putRow w1 ⟨w.heap.size, k * 56, none⟩ y.vals) w.heap.size 152 (flatH (fillK N (k + 1) l)).toArray := by rw [← HH.out.2.2.1]; exact hnew
        have H2 := Lib.hid (And.intro hnew2 (Below.put (HH.out.2.1.trans (hb1.mono HH.out.2.1.size)) (p := ⟨w.heap.size, k * 56, none⟩) (Nat.le_refl _) y.vals))
        clear hbk hnew hnew2 hb1
        go_wp2
        exact ⟨⟨k + 1, by omega, by go_num, H2.out.1, H2.out.2⟩, by simp [intOf]; omega⟩
      · have hkM : k = M := by omega
        subst hkM
        have e : fillK N k l = fillH N l := by rw [HM.out, ← hl]; exact fillK_end N l
        rw [e] at hb
        have H2 := Lib.hid (And.intro hb hB)
        clear hb hB e
        go_wp2
        go_ret
        exact ⟨rfl, H2.out.1, H2.out.2⟩
end Go.Proofs.YtnckfjmaochnkaaGreatDoor
