/-
  A cell made plain: sennitref13.Cell. words.held, words.may, words.filled of a table, words.Plain.
-/
import Derived.Test.YtopakilglnpinaaGc06
import Derived.Deep.Cut
import Derived.Deep.CutRange
namespace Go.Proofs.Ytopakilglnpinaa
open Go.RowKit
set_option linter.unusedVariables false
set_option linter.unusedSimpArgs false

def RCS (w : World) (c : Cl) (wr : World) : Prop :=
  Blk wr w.heap.size 51 c.vals.toArray ∧ Blk wr (w.heap.size + 1) 51 cellZ.toArray ∧ Below w.heap.size w wr
theorem RCS.below {w : World} {c : Cl} {wr w' : World} (h : RCS w c wr) (hb : Below wr.heap.size wr w') : RCS w c w' :=
  ⟨h.1.below hb h.1.lt, h.2.1.below hb h.2.1.lt, h.2.2.trans (hb.mono h.2.2.size)⟩
theorem RCS.set0 {w : World} {c : Cl} {wr : World} (h : RCS w c wr) (n : Int) : RCS w { c with age := n } (wr.setCell ⟨w.heap.size, 0, none⟩ (.int .i64 n)) := by
  have h1 := h.1.set_ 0 (.int .i64 n)
  rw [Cl.set0] at h1
  exact ⟨h1, h.2.1.far (by simp) _, h.2.2.trans ((Chg.refl (· = w.heap.size) wr).set_at 0 _ |>.below h.2.2.size (fun k hk => by omega))⟩
theorem RCS.set53 {w : World} {c : Cl} {wr : World} (hv : c.v.length = 40) (h : RCS w c wr) (n : Int) : RCS w { c with cmd := n } (wr.setCell ⟨w.heap.size, 53, none⟩ (.int .i8 n)) := by
  have h1 := h.1.set_ 53 (.int .i8 n)
  rw [Cl.set53 hv] at h1
  exact ⟨h1, h.2.1.far (by simp) _, h.2.2.trans ((Chg.refl (· = w.heap.size) wr).set_at 53 _ |>.below h.2.2.size (fun k hk => by omega))⟩
theorem RCS.set54 {w : World} {c : Cl} {wr : World} (hv : c.v.length = 40) (h : RCS w c wr) (n : Int) : RCS w { c with mode := n } (wr.setCell ⟨w.heap.size, 54, none⟩ (.int .u8 n)) := by
  have h1 := h.1.set_ 54 (.int .u8 n)
  rw [Cl.set54 hv] at h1
  exact ⟨h1, h.2.1.far (by simp) _, h.2.2.trans ((Chg.refl (· = w.heap.size) wr).set_at 54 _ |>.below h.2.2.size (fun k hk => by omega))⟩
theorem Blk.far_put {w : World} {g : Nat} {t : TypeId} {cs : Array Value} (h : Blk w g t cs) {p : Addr} (hp : g ≠ p.block) (l : List Value) : Blk (putRow w p l) g t cs := (putRow_other w p l g hp).trans h
theorem RCS.put1 {w : World} {c : Cl} {wr : World} (h : RCS w c wr) (s : Sd) : RCS w { c with o := s } (putRow wr ⟨w.heap.size, 1, none⟩ s.vals) := by
  have h1 := h.1.put 1 s.vals
  rw [Cl.put_o] at h1
  exact ⟨h1, h.2.1.far_put (by simp) _, Below.put h.2.2 (by simp) _⟩
theorem RCS.put7 {w : World} {c : Cl} {wr : World} (h : RCS w c wr) (s : Sd) : RCS w { c with r := s } (putRow wr ⟨w.heap.size, 7, none⟩ s.vals) := by
  have h1 := h.1.put 7 s.vals
  rw [Cl.put_r] at h1
  exact ⟨h1, h.2.1.far_put (by simp) _, Below.put h.2.2 (by simp) _⟩

set_option maxRecDepth 100000 in
set_option maxHeartbeats 1000000 in
theorem rcell_any (c : Cl) (hv : c.v.length = 40) (hc1 : c.v.all cell1 = true) (w : World) : Calls Try.prog 45 #[.agg c.vals.toArray] w fun e w' => e = .returned (.agg c.norm.vals.toArray) ∧ Below w.heap.size w w' := by
  have hln : c.norm.vals.length = 55 := Cl.len hv
  have hcn : c.norm.vals.all cell1 = true := by
    rw [Cl.norm_eq]
    simp [Cl.vals, Sd.vals, cell1, List.all_append] at hc1 ⊢
    exact hc1
  go_enter Try.func45, Try.ntmps45
  go_upto_region 1 with fail
  have hst : RCS w c ((w.alloc (.cells c.vals.toArray 51)).alloc (.cells cellZ.toArray 51)) := by
    refine ⟨(Blk.new _ _ _).alloc _, ?_, ((Below.refl _ _).alloc (Nat.le_refl _) _).alloc (by simp) _⟩
    have := Blk.new (w.alloc (.cells c.vals.toArray 51)) 51 cellZ.toArray
    have e : (w.alloc (.cells c.vals.toArray 51)).heap.size = w.heap.size + 1 := by simp
    rwa [e] at this
  generalize ((w.alloc (.cells c.vals.toArray 51)).alloc (.cells cellZ.toArray 51)) = w0 at hst ⊢
  have H0 := Lib.hid hst
  obtain ⟨f0, -, -, ff, -⟩ := hst.1.cl hv
  have ff0 := ff 0
  clear hst ff
  obtain ⟨b1, hb1⟩ : ∃ b, b = decide (c.age < 0 ∨ 1099511627776 < c.age) := ⟨_, rfl⟩
  have HB1 := Lib.hid hb1
  clear hb1
  go_cut [10] from 3 (fun s10 wx => s10 = .bool b1 ∧ w0 = wx)
  case first =>
    by_cases h1 : c.age < 0
    · go_wp2_with fail
      go_meet
      exact ⟨by rw [HB1.out]; simp [h1], rfl⟩
    · by_cases h2 : 1099511627776 < c.age
      · go_wp2_with fail
        go_meet
        exact ⟨by rw [HB1.out]; simp [h2], rfl⟩
      · go_wp2_with fail
        go_meet
        exact ⟨by rw [HB1.out]; simp; omega, rfl⟩
  case rest =>
    obtain ⟨rfl, rfl⟩ := hcut
    go_upto_if 10 with fail
    go_cut [] from 3 (fun wx => RCS w { c with age := ageN c.age } wx)
    case first =>
      cases b1
      · have e : ageN c.age = c.age := by have := HB1.out; simp at this; unfold ageN; rw [if_neg (by omega)]
        go_wp2_with fail
        go_meet
        rw [e]; exact H0.out
      · have e : ageN c.age = -1 := by have := HB1.out; simp at this; unfold ageN; rw [if_pos (by omega)]
        have HE := Lib.hid e
        clear e
        go_wp2_with fail
        go_meet
        rw [HE.out]; exact H0.out.set0 _
    case rest =>
      clear f0 ff0 HB1 H0
      have H1 := Lib.hid hcut
      obtain ⟨-, -, -, -, f1, f2, -⟩ := hcut.1.cl hv
      clear hcut
      go_wp2_with fail
      refine (rsaid_any c.o _).mono ?_
      rintro e w1 ⟨rfl, hb1⟩
      have hr := H1.out.below hb1
      obtain ⟨-, -, -, -, -, -, -, -, -, -, f5, -⟩ := hr.1.cl hv
      have H2 := Lib.hid (hr.put1 c.o.norm)
      clear f1 f2 hr hb1
      go_upto_region 4 with fail
      generalize putRow w1 ⟨w.heap.size, 1, none⟩ c.o.norm.vals = w2 at H2 ⊢
      obtain ⟨-, -, -, -, -, -, g1, g2, -⟩ := H2.out.1.cl hv
      clear f5
      go_wp2_with fail
      refine (rsaid_any c.r _).mono ?_
      rintro e w3 ⟨rfl, hb3⟩
      have hr := H2.out.below hb3
      obtain ⟨-, -, -, -, -, -, -, -, -, -, -, f6⟩ := hr.1.cl hv
      have H3 := Lib.hid (hr.put7 c.r.norm)
      clear g1 g2 hr hb3
      go_upto_region 5 with fail
      generalize putRow w3 ⟨w.heap.size, 7, none⟩ c.r.norm.vals = w4 at H3 ⊢
      clear f6
      obtain ⟨-, f53, -, ff, -⟩ := H3.out.1.cl hv
      have ff53 := ff 53
      clear ff
      obtain ⟨b2, hb2⟩ : ∃ b, b = decide (c.cmd < 0 ∨ 8 ≤ c.cmd) := ⟨_, rfl⟩
      have HB2 := Lib.hid hb2
      clear hb2
      go_cut [29] from 3 (fun s29 wx => s29 = .bool b2 ∧ w4 = wx)
      case first =>
        by_cases h1 : c.cmd < 0
        · go_wp2_with fail
          go_meet
          exact ⟨by rw [HB2.out]; simp [h1], rfl⟩
        · by_cases h2 : 8 ≤ c.cmd
          · have h3 : 7 < c.cmd := by omega
            go_wp2_with fail
            go_meet
            exact ⟨by rw [HB2.out]; simp [h2], rfl⟩
          · have h3 : ¬ 7 < c.cmd := by omega
            go_wp2_with fail
            go_meet
            exact ⟨by rw [HB2.out]; simp; omega, rfl⟩
      case rest =>
        obtain ⟨rfl, rfl⟩ := hcut
        go_upto_if 29 with fail
        go_cut [] from 3 (fun wx => RCS w { c with age := ageN c.age, o := c.o.norm, r := c.r.norm, cmd := cmdN c.cmd } wx)
        case first =>
          cases b2
          · have e : cmdN c.cmd = c.cmd := by have := HB2.out; simp at this; unfold cmdN; rw [if_neg (by omega)]
            go_wp2_with fail
            go_meet
            rw [e]; exact H3.out
          · have e : cmdN c.cmd = -1 := by have := HB2.out; simp at this; unfold cmdN; rw [if_pos (by omega)]
            have HE := Lib.hid e
            clear e
            go_wp2_with fail
            go_meet
            rw [HE.out]; exact RCS.set53 (c := { c with age := ageN c.age, o := c.o.norm, r := c.r.norm }) hv H3.out _
        case rest =>
          clear f53 ff53 HB2 H3
          have H4 := Lib.hid hcut
          obtain ⟨-, -, f54, ff, -⟩ := hcut.1.cl hv
          have ff54 := ff 54
          clear ff hcut
          simp only at f54
          have fin : ∀ wz, RCS w c.norm wz → canPut wz ⟨w.heap.size + 1, 0, none⟩ 55 = true ∧ hasRow wz ⟨w.heap.size, 0, none⟩ 55 = true ∧ rowOf wz ⟨w.heap.size, 0, none⟩ 55 = c.norm.vals ∧
              hasRow (putRow wz ⟨w.heap.size + 1, 0, none⟩ c.norm.vals) ⟨w.heap.size + 1, 0, none⟩ 55 = true ∧ rowOf (putRow wz ⟨w.heap.size + 1, 0, none⟩ c.norm.vals) ⟨w.heap.size + 1, 0, none⟩ 55 = c.norm.vals ∧ Below w.heap.size w (putRow wz ⟨w.heap.size + 1, 0, none⟩ c.norm.vals) := by
            intro wz h
            obtain ⟨r1, r2, -⟩ := h.1.whole hln
            obtain ⟨-, -, r3⟩ := h.2.1.whole len_cellZ
            have hp := h.2.1.put_all (l := c.norm.vals) (by rw [len_cellZ, hln])
            obtain ⟨p1, p2, -⟩ := hp.whole hln
            exact ⟨r3, r1, r2, p1, p2, Below.put h.2.2 (by simp) _⟩
          have HF := Lib.hid fin
          clear fin
          by_cases h1 : 7 < c.mode
          · have e : RCS w c.norm (wc.setCell ⟨w.heap.size, 54, none⟩ (.int .u8 0)) := by
              have := RCS.set54 (c := { c with age := ageN c.age, o := c.o.norm, r := c.r.norm, cmd := cmdN c.cmd }) hv H4.out 0
              rw [Cl.norm_eq]; unfold modeN; rw [if_pos h1]; exact this
            have HE := Lib.hid e
            clear e
            go_upto_region 9 with fail
            generalize wc.setCell ⟨w.heap.size, 54, none⟩ (.int .u8 0) = wz at HE ⊢
            obtain ⟨r3, r1, r2, p1, p2, p3⟩ := HF.out _ HE.out
            have HP := Lib.hid (And.intro p1 (And.intro p2 p3))
            clear p1 p2 p3 f54 ff54
            go_wp2_with fail
            try simp only [Exit.inBlock, Exit.then]
            first | refine bodyPost_ret (ret_row (n := 55) rfl (by kernel_rfl) _ _ _ rfl ?_) rfl ?_ | refine bodyPost_end (ret_row (n := 55) rfl (by kernel_rfl) _ _ _ rfl ?_) rfl ?_
            · exact HP.out.1
            · exact ⟨by rw [HP.out.2.1], HP.out.2.2⟩
          · have e : RCS w c.norm wc := by
              rw [Cl.norm_eq]; unfold modeN; rw [if_neg h1]; exact H4.out
            have HE := Lib.hid e
            clear e
            go_upto_region 9 with fail
            obtain ⟨r3, r1, r2, p1, p2, p3⟩ := HF.out _ HE.out
            have HP := Lib.hid (And.intro p1 (And.intro p2 p3))
            clear p1 p2 p3 f54 ff54
            go_wp2_with fail
            try simp only [Exit.inBlock, Exit.then]
            first | refine bodyPost_ret (ret_row (n := 55) rfl (by kernel_rfl) _ _ _ rfl ?_) rfl ?_ | refine bodyPost_end (ret_row (n := 55) rfl (by kernel_rfl) _ _ _ rfl ?_) rfl ?_
            · exact HP.out.1
            · exact ⟨by rw [HP.out.2.1], HP.out.2.2⟩
end Go.Proofs.Ytopakilglnpinaa
namespace Go.Proofs.Ytopakilglnpinaa
open Go.RowKit
set_option linter.unusedVariables false
set_option linter.unusedSimpArgs false

@[go_sem] theorem heldZ_cell1 : heldZ.all cell1 = true := by kernel_rfl
@[go_sem] theorem rowZ_cell1 : rowZ.all cell1 = true := by kernel_rfl
theorem okL_v {c : Cl} (hv : c.v.length = 40) (h : okL cellK c.vals = true) : c.v.all cell1 = true := okL_cell1 ((cell_ok_parts hv).1 h).2.2.2.1
theorem cellL_any (c : List Value) (h : okL cellK c = true) (w : World) : Calls Try.prog 42 #[.agg c.toArray] w fun e w' => e = .returned (.agg (nrm c).toArray) ∧ Below w.heap.size w w' := by
  obtain ⟨C, rfl, hC⟩ := cell_of h
  rw [nrm_vals C hC]
  exact cell_any C hC (okL_v hC h) w
theorem rcellL_any (c : List Value) (h : okL cellK c = true) (w : World) : Calls Try.prog 45 #[.agg c.toArray] w fun e w' => e = .returned (.agg (nrm c).toArray) ∧ Below w.heap.size w w' := by
  obtain ⟨C, rfl, hC⟩ := cell_of h
  rw [nrm_vals C hC]
  exact rcell_any C hC (okL_v hC h) w

theorem may_any (n : Int) (w : World) : Calls Try.prog 41 #[.int .i64 n] w fun e w' => e = .returned (.bool (mayN n)) ∧ w = w' := by
  by_cases h0 : 0 ≤ n
  · have e : mayN n = decide (n ≤ 16) := by simp [mayN, h0]
    rw [e]
    go_enter Try.func41, Try.ntmps41
    go_wp2_with fail
    go_ret
    exact ⟨rfl, rfl⟩
  · have e : mayN n = false := by simp [mayN]; omega
    rw [e]
    go_enter Try.func41, Try.ntmps41
    go_wp2_with fail
    go_ret
    exact ⟨rfl, rfl⟩

theorem Hd.cell1 {h : Hd} (hk : h.ok) : h.vals.all cell1 = true := by
  have := okL_cell1 hk
  simp only [Hd.vals, List.all_cons, cell1_bool, Bool.true_and]
  exact this

set_option maxRecDepth 100000 in
theorem held_any (h : Hd) (hk : h.ok) (w : World) : Calls Try.prog 44 #[.agg h.vals.toArray] w fun e w' => e = .returned (.agg h.nrm.vals.toArray) ∧ Below w.heap.size w w' := by
  obtain ⟨is, c⟩ := h
  have hl : c.length = 55 := Hd.ok_len hk
  have hB : ∀ (l z : List Value) (t t' : TypeId), Below w.heap.size w ((w.alloc (.cells l.toArray t)).alloc (.cells z.toArray t')) := said_frame w
  have HB := Lib.hid hB
  have HK := Lib.hid hk
  clear hB hk
  cases is with
  | false =>
    simp only [Hd.vals]
    go_enter Try.func44, Try.ntmps44
    go_wp2_with fail
    try simp only [Exit.inBlock, Exit.then]
    first | refine bodyPost_ret (ret_row (n := 56) rfl (by kernel_rfl) _ _ _ rfl ?_) rfl ?_ | refine bodyPost_end (ret_row (n := 56) rfl (by kernel_rfl) _ _ _ rfl ?_) rfl ?_
    · simp [go_sem]
    · refine ⟨?_, HB.out _ _ _ _⟩
      have e : List.take 55 cellZ = cellZ := List.take_of_length_le (by rw [len_cellZ]; omega)
      simp [go_sem, Hd.nrm, hd0, heldZ, e]
  | true =>
    have hn : Hd.nrm ⟨true, c⟩ = ⟨true, nrm c⟩ := rfl
    rw [hn]
    simp only [Hd.vals]
    have hnl : (nrm c).length = 55 := (okL_len (nrm_ok HK.out)).trans len_cellK
    have hn1 := okL_cell1 (nrm_ok HK.out)
    have ht : List.take 55 c = c := List.take_of_length_le (by omega)
    go_enter Try.func44, Try.ntmps44
    go_wp2_with fail
    refine (cellL_any c HK.out _).mono ?_
    rintro e w1 ⟨rfl, hb1⟩
    have hg : Blk w1 (w.heap.size + 1) 90 heldZ.toArray := by
      have := Blk.new (w.alloc (.cells (Value.bool true :: c).toArray 90)) 90 heldZ.toArray
      have e : (w.alloc (.cells (Value.bool true :: c).toArray 90)).heap.size = w.heap.size + 1 := by simp
      rw [e] at this
      exact this.below hb1 (by simp)
    obtain ⟨-, -, k3⟩ := hg.whole len_heldZ
    have hp := hg.put_all (l := .bool true :: nrm c) (by simp [len_heldZ, hnl])
    obtain ⟨p1, p2, -⟩ := hp.whole (n := 56) (by simp [hnl])
    have H := Lib.hid (And.intro p1 (And.intro p2 (Below.put ((HB.out _ _ _ _).trans (hb1.mono (by simp; omega))) (p := ⟨w.heap.size + 1, 0, none⟩) (by simp) (.bool true :: nrm c))))
    clear hg hp p1 p2 hb1
    go_wp2_with fail
    try simp only [Exit.inBlock, Exit.then]
    first | refine bodyPost_ret (ret_row (n := 56) rfl (by kernel_rfl) _ _ _ rfl ?_) rfl ?_ | refine bodyPost_end (ret_row (n := 56) rfl (by kernel_rfl) _ _ _ rfl ?_) rfl ?_
    · exact H.out.1
    · exact ⟨by rw [H.out.2.1], H.out.2.2⟩

def fillK (N k : Nat) (l : List Hd) : List Hd := (l.take k).map Hd.nrm ++ List.replicate (N - k) hd0
theorem fillK_len {N k : Nat} {l : List Hd} (h1 : k ≤ N) (h2 : k ≤ l.length) : (fillK N k l).length = N := by simp [fillK]; omega
theorem fillK_ok {N k : Nat} {l : List Hd} (h : ∀ x ∈ l, x.ok) : ∀ x ∈ fillK N k l, x.ok := fun x hx => by
  rcases List.mem_append.1 hx with hx | hx
  · obtain ⟨y, hy, rfl⟩ := List.mem_map.1 hx
    exact Hd.nrm_ok (h y (List.mem_of_mem_take hy))
  · rw [List.eq_of_mem_replicate hx]; exact hd0_ok
theorem fillK_set {N k : Nat} {l : List Hd} {x : Hd} (h1 : k < N) (hx : l[k]? = some x) : (fillK N k l).set k x.nrm = fillK N (k + 1) l := by
  have h2 : k < l.length := (List.getElem?_eq_some_iff.1 hx).1
  unfold fillK
  rw [List.take_add_one, hx]
  have e : N - k = (N - (k + 1)) + 1 := by omega
  rw [e, List.replicate_succ, List.set_append, if_neg (by simp; omega)]
  have e2 : k - ((l.take k).map Hd.nrm).length = 0 := by simp; omega
  rw [e2]
  simp
theorem fillK_end (N : Nat) (l : List Hd) : fillK N (min N l.length) l = fillH N l := by
  unfold fillK fillH
  by_cases h : N ≤ l.length
  · rw [Nat.min_eq_left h]; simp; omega
  · rw [Nat.min_eq_right (by omega), List.take_of_length_le (by omega), List.take_of_length_le (by omega)]

set_option maxRecDepth 100000 in
set_option maxHeartbeats 1000000 in
theorem fillh_any (S : Nat → Prop) (N : Nat) (hN : N ≤ 16) (a : Option Addr) (len cap : Nat) (l : List Hd) (w : World) (hrd : RdHs S w a len l) (hm1 : len ≤ cap) (hm2 : cap ≤ maxLen) :
    Calls Try.prog 43 #[.int .i64 N, .slice a len cap, .func (.func 44) #[] #[]] w fun e w' => e = .returned (.slice (some ⟨w.heap.size, 0, none⟩) N N) ∧ Blk w' w.heap.size 90 (flatH (fillH N l)).toArray ∧ Below w.heap.size w w' := by
  have hl : l.length = len := hrd.1
  unfold maxLen at hm2
  have HR := Lib.hid hrd
  clear hrd
  have hN1 : N ≤ 1048576 := by omega
  obtain ⟨M, hM⟩ : ∃ M, M = min N len := ⟨_, rfl⟩
  go_enter Try.func43, Try.ntmps43
  go_wp2_with fail
  case' inl => have e14 : (len : Int) = (M : Int) := by omega
  case' inr => have e14 : (N : Int) = (M : Int) := by omega
  all_goals
    have hst : ∀ z, z = zrep heldZ N → Blk (w.alloc (.cells z.toArray 90)) w.heap.size 90 (flatH (fillK N 0 l)).toArray ∧ Below w.heap.size w (w.alloc (.cells z.toArray 90)) := by
      rintro z rfl
      rw [flatH_rep]
      have : fillK N 0 l = List.replicate N hd0 := by simp [fillK]
      rw [this]
      exact ⟨Blk.new _ _ _, (Below.refl _ _).alloc (Nat.le_refl _) _⟩
    have hM1 : M ≤ N := by omega
    have hM2 : M ≤ len := by omega
    have HS := Lib.hid hst
    have HM := Lib.hid hM
    clear hM hst
  case' inl => rw [e14]
  case' inr => rw [show (Value.int .i64 (N : Int)) = Value.int .i64 (M : Int) from by rw [e14]]
  all_goals
    clear e14
    go_loopw [15] (fun i wr => ∃ k : Nat, k ≤ M ∧ i = .int .i64 k ∧ Blk wr w.heap.size 90 (flatH (fillK N k l)).toArray ∧ Below w.heap.size w wr) (fun i _ => M - (intOf i).toNat)
    case atStart => exact ⟨0, by omega, rfl, HS.out _ rfl⟩
    case round =>
      obtain ⟨k, hk, rfl, hb, hB⟩ := hrel
      by_cases hlt : k < M
      · obtain ⟨b, off, is, n, r, rfl, hS, hbw, hv, hok, hrl, hrc1, hr1, hr2, -⟩ := HR.out.at_ k (by omega)
        have d := row_below hB (p := ⟨b, off + k * 56, none⟩) hbw 56
        have d1 := d.1.trans hr1
        have d2 := d.2.trans hr2
        have hkN : k < N := by omega
        have hkl : k < len := by omega
        have hcall := held_any ⟨is, .int .i64 n :: r⟩ hok wr
        obtain ⟨y, hy⟩ : ∃ y, y = Hd.nrm ⟨is, .int .i64 n :: r⟩ := ⟨_, rfl⟩
        have hyk : y.ok := by rw [hy]; exact Hd.nrm_ok hok
        have hyl := Hd.vals_len hyk
        have hyc := Hd.cell1 hyk
        rw [← hy] at hcall
        have hset := fillK_set hkN hv
        rw [← hy] at hset
        have hlen := len_flatH (fillK_ok (N := N) (k := k) HR.out.2.1)
        rw [fillK_len (by omega) (by omega)] at hlen
        have hfs := flatH_set (fillK_ok (N := N) (k := k) HR.out.2.1) (k := k) (by rw [fillK_len (by omega) (by omega)]; omega) y hyk
        rw [hset] at hfs
        have HC := Lib.hid hcall
        have HH := Lib.hid (And.intro hb (And.intro hB (And.intro hfs hlen)))
        clear d hr1 hr2 hv hok hrc1 hcall hset hfs hlen hb hB hy hyk
        go_wp2_with fail
        refine HC.out.mono ?_
        rintro e w1 ⟨rfl, hb1⟩
        have hbk := HH.out.1.below hb1 HH.out.1.lt
        have hcp : canPut w1 ⟨w.heap.size, k * 56, none⟩ 56 = true := by
          obtain ⟨-, -, -, -, h5⟩ := hbk.rules
          rw [h5, HH.out.2.2.2]
          have : (k + 1) * 56 ≤ N * 56 := Nat.mul_le_mul_right _ hkN
          simp; omega
        have hnew := hbk.put (k * 56) y.vals
        have hnew2 : Blk (putRow w1 ⟨w.heap.size, k * 56, none⟩ y.vals) w.heap.size 90 (flatH (fillK N (k + 1) l)).toArray := by rw [← HH.out.2.2.1]; exact hnew
        have H2 := Lib.hid (And.intro hnew2 (Below.put (HH.out.2.1.trans (hb1.mono HH.out.2.1.size)) (p := ⟨w.heap.size, k * 56, none⟩) (Nat.le_refl _) y.vals))
        clear hbk hnew hnew2 hb1
        go_wp2
        exact ⟨⟨k + 1, by omega, by go_num, H2.out.1, H2.out.2⟩, by simp [intOf]; omega⟩
      · have hkM : k = M := by omega
        subst hkM
        have e : fillK N k l = fillH N l := by rw [HM.out, ← hl]; exact fillK_end N l
        rw [e] at hb
        have H2 := Lib.hid (And.intro hb hB)
        clear hb hB e
        go_wp2
        go_ret
        exact ⟨rfl, H2.out.1, H2.out.2⟩
end Go.Proofs.Ytopakilglnpinaa
