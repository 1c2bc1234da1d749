/-
  A cell made plain: sennitref13.Cell.
-/
import Derived.Test.YtbdklfcgcmdgaaaGa09
import Derived.Deep.Cut
import Derived.Deep.CutRange
namespace Go.Proofs.Ytbdklfcgcmdgaaa
open Go.RowKit
set_option linter.unusedVariables false
set_option linter.unusedSimpArgs false

def RCS (w : World) (c : Cl) (wr : World) : Prop :=
  Blk wr w.heap.size 51 c.vals.toArray ∧ Blk wr (w.heap.size + 1) 51 cellZ.toArray ∧ Below w.heap.size w wr
theorem RCS.below {w : World} {c : Cl} {wr w' : World} (h : RCS w c wr) (hb : Below wr.heap.size wr w') : RCS w c w' :=
  ⟨h.1.below hb h.1.lt, h.2.1.below hb h.2.1.lt, h.2.2.trans (hb.mono h.2.2.size)⟩
theorem RCS.set0 {w : World} {c : Cl} {wr : World} (h : RCS w c wr) (n : Int) : RCS w { c with age := n } (wr.setCell ⟨w.heap.size, 0, none⟩ (.int .i64 n)) := by
  have h1 := h.1.set_ 0 (.int .i64 n)
  rw [Cl.set0] at h1
  exact ⟨h1, h.2.1.far (by simp) _, h.2.2.trans ((Chg.refl (· = w.heap.size) wr).set_at 0 _ |>.below h.2.2.size (fun k hk => by omega))⟩
theorem RCS.set53 {w : World} {c : Cl} {wr : World} (hv : c.v.length = 40) (h : RCS w c wr) (n : Int) : RCS w { c with cmd := n } (wr.setCell ⟨w.heap.size, 53, none⟩ (.int .i8 n)) := by
  have h1 := h.1.set_ 53 (.int .i8 n)
  rw [Cl.set53 hv] at h1
  exact ⟨h1, h.2.1.far (by simp) _, h.2.2.trans ((Chg.refl (· = w.heap.size) wr).set_at 53 _ |>.below h.2.2.size (fun k hk => by omega))⟩
theorem RCS.set54 {w : World} {c : Cl} {wr : World} (hv : c.v.length = 40) (h : RCS w c wr) (n : Int) : RCS w { c with mode := n } (wr.setCell ⟨w.heap.size, 54, none⟩ (.int .u8 n)) := by
  have h1 := h.1.set_ 54 (.int .u8 n)
  rw [Cl.set54 hv] at h1
  exact ⟨h1, h.2.1.far (by simp) _, h.2.2.trans ((Chg.refl (· = w.heap.size) wr).set_at 54 _ |>.below h.2.2.size (fun k hk => by omega))⟩
theorem Blk.far_put {w : World} {g : Nat} {t : TypeId} {cs : Array Value} (h : Blk w g t cs) {p : Addr} (hp : g ≠ p.block) (l : List Value) : Blk (putRow w p l) g t cs := (putRow_other w p l g hp).trans h
theorem RCS.put1 {w : World} {c : Cl} {wr : World} (h : RCS w c wr) (s : Sd) : RCS w { c with o := s } (putRow wr ⟨w.heap.size, 1, none⟩ s.vals) := by
  have h1 := h.1.put 1 s.vals
  rw [Cl.put_o] at h1
  exact ⟨h1, h.2.1.far_put (by simp) _, Below.put h.2.2 (by simp) _⟩
theorem RCS.put7 {w : World} {c : Cl} {wr : World} (h : RCS w c wr) (s : Sd) : RCS w { c with r := s } (putRow wr ⟨w.heap.size, 7, none⟩ s.vals) := by
  have h1 := h.1.put 7 s.vals
  rw [Cl.put_r] at h1
  exact ⟨h1, h.2.1.far_put (by simp) _, Below.put h.2.2 (by simp) _⟩

set_option maxRecDepth 100000 in
set_option maxHeartbeats 1000000 in
theorem rcell_any (c : Cl) (hv : c.v.length = 40) (hc1 : c.v.all cell1 = true) (w : World) : Calls Try.prog 87 #[.agg c.vals.toArray] w fun e w' => e = .returned (.agg c.norm.vals.toArray) ∧ Below w.heap.size w w' := by
  have hln : c.norm.vals.length = 55 := Cl.len hv
  have hcn : c.norm.vals.all cell1 = true := by
    rw [Cl.norm_eq]
    simp [Cl.vals, Sd.vals, cell1, List.all_append] at hc1 ⊢
    exact hc1
  go_enter Try.func87, Try.ntmps87
  go_upto_region 1 with fail
  have hst : RCS w c ((w.alloc (.cells c.vals.toArray 51)).alloc (.cells cellZ.toArray 51)) := by
    refine ⟨(Blk.new _ _ _).alloc _, ?_, ((Below.refl _ _).alloc (Nat.le_refl _) _).alloc (by simp) _⟩
    have := Blk.new (w.alloc (.cells c.vals.toArray 51)) 51 cellZ.toArray
    have e : (w.alloc (.cells c.vals.toArray 51)).heap.size = w.heap.size + 1 := by simp
    rwa [e] at this
  generalize ((w.alloc (.cells c.vals.toArray 51)).alloc (.cells cellZ.toArray 51)) = w0 at hst ⊢
  have H0 := Lib.hid hst
  obtain ⟨f0, -, -, ff, -⟩ := hst.1.cl hv
  have ff0 := ff 0
  clear hst ff
  obtain ⟨b1, hb1⟩ : ∃ b, b = decide (c.age < 0 ∨ 1099511627776 < c.age) := ⟨_, rfl⟩
  have HB1 := Lib.hid hb1
  clear hb1
  go_cut [10] from 3 (fun s10 wx => s10 = .bool b1 ∧ w0 = wx)
  case first =>
    by_cases h1 : c.age < 0
    · go_wp2_with fail
      go_meet
      exact ⟨by rw [HB1.out]; simp [h1], rfl⟩
    · by_cases h2 : 1099511627776 < c.age
      · go_wp2_with fail
        go_meet
        exact ⟨by rw [HB1.out]; simp [h2], rfl⟩
      · go_wp2_with fail
        go_meet
        exact ⟨by rw [HB1.out]; simp; omega, rfl⟩
  case rest =>
    obtain ⟨rfl, rfl⟩ := hcut
    go_upto_if 10 with fail
    go_cut [] from 3 (fun wx => RCS w { c with age := ageN c.age } wx)
    case first =>
      cases b1
      · have e : ageN c.age = c.age := by have := HB1.out; simp at this; unfold ageN; rw [if_neg (by omega)]
        go_wp2_with fail
        go_meet
        rw [e]; exact H0.out
      · have e : ageN c.age = -1 := by have := HB1.out; simp at this; unfold ageN; rw [if_pos (by omega)]
        have HE := Lib.hid e
        clear e
        go_wp2_with fail
        go_meet
        rw [HE.out]; exact H0.out.set0 _
    case rest =>
      clear f0 ff0 HB1 H0
      have H1 := Lib.hid hcut
      obtain ⟨-, -, -, -, f1, f2, -⟩ := hcut.1.cl hv
      clear hcut
      go_wp2_with fail
      refine (rsaid_any c.o _).mono ?_
      rintro e w1 ⟨rfl, hb1⟩
      have hr := H1.out.below hb1
      obtain ⟨-, -, -, -, -, -, -, -, -, -, f5, -⟩ := hr.1.cl hv
      have H2 := Lib.hid (hr.put1 c.o.norm)
      clear f1 f2 hr hb1
      go_upto_region 4 with fail
      generalize putRow w1 ⟨w.heap.size, 1, none⟩ c.o.norm.vals = w2 at H2 ⊢
      obtain ⟨-, -, -, -, -, -, g1, g2, -⟩ := H2.out.1.cl hv
      clear f5
      go_wp2_with fail
      refine (rsaid_any c.r _).mono ?_
      rintro e w3 ⟨rfl, hb3⟩
      have hr := H2.out.below hb3
      obtain ⟨-, -, -, -, -, -, -, -, -, -, -, f6⟩ := hr.1.cl hv
      have H3 := Lib.hid (hr.put7 c.r.norm)
      clear g1 g2 hr hb3
      go_upto_region 5 with fail
      generalize putRow w3 ⟨w.heap.size, 7, none⟩ c.r.norm.vals = w4 at H3 ⊢
      clear f6
      obtain ⟨-, f53, -, ff, -⟩ := H3.out.1.cl hv
      have ff53 := ff 53
      clear ff
      obtain ⟨b2, hb2⟩ : ∃ b, b = decide (c.cmd < 0 ∨ 8 ≤ c.cmd) := ⟨_, rfl⟩
      have HB2 := Lib.hid hb2
      clear hb2
      go_cut [29] from 3 (fun s29 wx => s29 = .bool b2 ∧ w4 = wx)
      case first =>
        by_cases h1 : c.cmd < 0
        · go_wp2_with fail
          go_meet
          exact ⟨by rw [HB2.out]; simp [h1], rfl⟩
        · by_cases h2 : 8 ≤ c.cmd
          · have h3 : 7 < c.cmd := by omega
            go_wp2_with fail
            go_meet
            exact ⟨by rw [HB2.out]; simp [h2], rfl⟩
          · have h3 : ¬ 7 < c.cmd := by omega
            go_wp2_with fail
            go_meet
            exact ⟨by rw [HB2.out]; simp; omega, rfl⟩
      case rest =>
        obtain ⟨rfl, rfl⟩ := hcut
        go_upto_if 29 with fail
        go_cut [] from 3 (fun wx => RCS w { c with age := ageN c.age, o := c.o.norm, r := c.r.norm, cmd := cmdN c.cmd } wx)
        case first =>
          cases b2
          · have e : cmdN c.cmd = c.cmd := by have := HB2.out; simp at this; unfold cmdN; rw [if_neg (by omega)]
            go_wp2_with fail
            go_meet
            rw [e]; exact H3.out
          · have e : cmdN c.cmd = -1 := by have := HB2.out; simp at this; unfold cmdN; rw [if_pos (by omega)]
            have HE := Lib.hid e
            clear e
            go_wp2_with fail
            go_meet
            rw [HE.out]; exact RCS.set53 (c := { c with age := ageN c.age, o := c.o.norm, r := c.r.norm }) hv H3.out _
        case rest =>
          clear f53 ff53 HB2 H3
          have H4 := Lib.hid hcut
          obtain ⟨-, -, f54, ff, -⟩ := hcut.1.cl hv
          have ff54 := ff 54
          clear ff hcut
          simp only at f54
          have fin : ∀ wz, RCS w c.norm wz → canPut wz ⟨w.heap.size + 1, 0, none⟩ 55 = true ∧ hasRow wz ⟨w.heap.size, 0, none⟩ 55 = true ∧ rowOf wz ⟨w.heap.size, 0, none⟩ 55 = c.norm.vals ∧
              hasRow (putRow wz ⟨w.heap.size + 1, 0, none⟩ c.norm.vals) ⟨w.heap.size + 1, 0, none⟩ 55 = true ∧ rowOf (putRow wz ⟨w.heap.size + 1, 0, none⟩ c.norm.vals) ⟨w.heap.size + 1, 0, none⟩ 55 = c.norm.vals ∧ Below w.heap.size w (putRow wz ⟨w.heap.size + 1, 0, none⟩ c.norm.vals) := by
            intro wz h
            obtain ⟨r1, r2, -⟩ := h.1.whole hln
            obtain ⟨-, -, r3⟩ := h.2.1.whole len_cellZ
            have hp := h.2.1.put_all (l := c.norm.vals) (by rw [len_cellZ, hln])
            obtain ⟨p1, p2, -⟩ := hp.whole hln
            exact ⟨r3, r1, r2, p1, p2, Below.put h.2.2 (by simp) _⟩
          have HF := Lib.hid fin
          clear fin
          by_cases h1 : 7 < c.mode
          · have e : RCS w c.norm (wc.setCell ⟨w.heap.size, 54, none⟩ (.int .u8 0)) := by
              have := RCS.set54 (c := { c with age := ageN c.age, o := c.o.norm, r := c.r.norm, cmd := cmdN c.cmd }) hv H4.out 0
              rw [Cl.norm_eq]; unfold modeN; rw [if_pos h1]; exact this
            have HE := Lib.hid e
            clear e
            go_upto_region 9 with fail
            generalize wc.setCell ⟨w.heap.size, 54, none⟩ (.int .u8 0) = wz at HE ⊢
            obtain ⟨r3, r1, r2, p1, p2, p3⟩ := HF.out _ HE.out
            have HP := Lib.hid (And.intro p1 (And.intro p2 p3))
            clear p1 p2 p3 f54 ff54
            go_wp2_with fail
            try simp only [Exit.inBlock, Exit.then]
            first | refine bodyPost_ret (ret_row (n := 55) rfl (by kernel_rfl) _ _ _ rfl ?_) rfl ?_ | refine bodyPost_end (ret_row (n := 55) rfl (by kernel_rfl) _ _ _ rfl ?_) rfl ?_
            · exact HP.out.1
            · exact ⟨by rw [HP.out.2.1], HP.out.2.2⟩
          · have e : RCS w c.norm wc := by
              rw [Cl.norm_eq]; unfold modeN; rw [if_neg h1]; exact H4.out
            have HE := Lib.hid e
            clear e
            go_upto_region 9 with fail
            obtain ⟨r3, r1, r2, p1, p2, p3⟩ := HF.out _ HE.out
            have HP := Lib.hid (And.intro p1 (And.intro p2 p3))
            clear p1 p2 p3 f54 ff54
            go_wp2_with fail
            try simp only [Exit.inBlock, Exit.then]
            first | refine bodyPost_ret (ret_row (n := 55) rfl (by kernel_rfl) _ _ _ rfl ?_) rfl ?_ | refine bodyPost_end (ret_row (n := 55) rfl (by kernel_rfl) _ _ _ rfl ?_) rfl ?_
            · exact HP.out.1
            · exact ⟨by rw [HP.out.2.1], HP.out.2.2⟩
end Go.Proofs.Ytbdklfcgcmdgaaa
