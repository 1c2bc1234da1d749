
/-
  Bounds (chapter 34): of a net, by a formula.
-/
import Derived.Test.YtopakilglnpinaaGreatDoorBn22
namespace Go.Proofs.YtopakilglnpinaaGreatDoor
open Go.RowKit
set_option linter.unusedVariables false
set_option linter.unusedSimpArgs false

/-- what a formula of captured values answers -/
def FormP (f : Nat) (cs : List Value) (c : Cfg) (z : Int) (w : World) : Prop := ∀ w', Below w.heap.size w w' → Calls Tryz.prog f (Value.int .i64 (roundV c) :: Value.int .i64 c.lo :: Value.int .i64 c.N :: cs).toArray w' (RetI z w')
set_option maxRecDepth 100000 in
set_option maxHeartbeats 1000000 in
theorem of34_any (S : Nat → Prop) (p : Nat) (A : CfA) (q : Nat) (c : Cfg) (w : World) (h : NetAt S w p A q c) (hok : RefOk c) (f : Nat) (cs : List Value) (z : Int)
    (hent : ∀ args w, (callFunc f args).run Tryz.prog w = .ok (.enter f args) w) (hf : FormP f cs c z w) :
    Calls Tryz.prog 23 #[.pointer (some ⟨p, 0, none⟩), .func (.func f) #[] cs.toArray] w (RetI z w) := by
  have HR : Hid (∀ w', Below w.heap.size w w' → Calls Tryz.prog 29 #[.pointer (some ⟨p, 0, none⟩)] w' fun e w'' => e = .returned (.int .i64 (roundV c)) ∧ Below w.heap.size w w'') := Lib.hid fun w' hb => by
    refine (round4_any S p A q c w' (NetTab.keep h hb.size fun b _ hl => hb.block b hl) hok).mono ?_
    rintro e w2 ⟨rfl, hb2⟩
    exact ⟨rfl, hb.trans (hb2.mono hb.size)⟩
  have HF : Hid (∀ w', Below w.heap.size w w' → Calls Tryz.prog f (Value.int .i64 (roundV c) :: Value.int .i64 c.lo :: Value.int .i64 c.N :: cs).toArray w' fun e w'' => e = .returned (.int .i64 z) ∧ Below w.heap.size w w'') := Lib.hid fun w' hb => by
    refine (hf w' hb).mono ?_
    rintro e w2 ⟨rfl, hb2⟩
    exact ⟨rfl, hb.trans (hb2.mono hb.size)⟩
  obtain ⟨r, hr, hr1, hr2⟩ : ∃ z, z = roundV c ∧ 120 ≤ z ∧ z ≤ 65536 := ⟨_, rfl, hok.roundV⟩
  rw [← hr] at HR HF
  have hr0 : ¬ r = 0 := by omega
  obtain ⟨c0, c1, c2, c3, c4, c5, c6, c7, c8, c9, hpl⟩ := h.cells
  clear c1 c2 c4 c5 c6 c7 c8 c9
  obtain ⟨N, hN⟩ : ∃ N, N = c.N := ⟨_, rfl⟩
  obtain ⟨lo, hlo⟩ : ∃ lo, lo = c.lo := ⟨_, rfl⟩
  rw [← hN] at c0 HF
  rw [← hlo] at c3 HF
  have FA : Hid (∀ w', Below w.heap.size w w' → w'.cell? ⟨p, 0, none⟩ = some (.int .i64 N) ∧ w'.cell? ⟨p, 3, none⟩ = some (.int .i64 lo)) := Lib.hid fun w' hb => ⟨(hb.cell (p := ⟨p, 0, none⟩) hpl).trans c0, (hb.cell (p := ⟨p, 3, none⟩) hpl).trans c3⟩
  clear h hok hf hN hlo hr hr2
  go_enter Tryz.func23, Tryz.ntmps23
  go_wp2_with fail
  (with_reducible refine (HR.out _ (Below.refl _ _)).mono ?_)
  rintro e w1 ⟨rfl, hb1⟩
  have HB1 := Lib.hid hb1
  obtain ⟨d0, d3⟩ := FA.out w1 hb1
  clear hb1 c0 c3
  go_upto_region 3 with fail
  go_region_held3 (fun w' => w'.cell? ⟨p, 0, none⟩ = some (.int .i64 N) ∧ w'.cell? ⟨p, 3, none⟩ = some (.int .i64 lo))
    (with_reducible (first | assumption | exact FA.out _ HB1.out.drew | exact FA.out _ HB1.out | exact FA.out _ HB2.out | exact FA.out _ HB3.out))
    ((first
      | (go_at_call 29; refine (HR.out _ HB1.out.drew).mono ?_; rintro e w2 ⟨rfl, hb2⟩; have HB2 := Lib.hid hb2; clear hb2)
      | ((with_reducible refine (HF.out _ HB2.out).mono ?_); rintro e w3 ⟨rfl, hb3⟩; have HB3 := Lib.hid hb3; clear hb3)))
  go_wp2_with fail
  go_ret
  exact ⟨rfl, HB3.out⟩
def startV (c : Cfg) : Int := maxL c.B + 6 * c.N
def heardV (c : Cfg) : Int := startV c + 4 * c.lo
def agreedV (c : Cfg) : Int := heardV c + roundV c
def outV (c : Cfg) : Int := (c.mi + 1) * roundV c
def inV (c : Cfg) : Int := (c.go + 1) * roundV c
def takeV (c : Cfg) : Int := outV c + roundV c
def freshV (c : Cfg) : Int := 2 * (c.lo + c.N)
theorem RefOk.maxB {c : Cfg} (h : RefOk c) : 0 ≤ maxL c.B ∧ maxL c.B ≤ 4096 := ⟨foldl_max_ge _ _, foldl_max_le _ (by omega) fun z hz => (h.b z hz).2⟩
theorem RefOk.startV {c : Cfg} (h : RefOk c) : 0 ≤ startV c ∧ startV c ≤ 10000 := by
  have := h.maxB; have := h.n
  unfold Proofs.YtopakilglnpinaaGreatDoor.startV
  omega
theorem RefOk.heardV {c : Cfg} (h : RefOk c) : 0 ≤ heardV c ∧ heardV c ≤ 50000 := by
  have := h.startV; have := h.lo; have := h.n
  unfold Proofs.YtopakilglnpinaaGreatDoor.heardV
  omega
theorem RefOk.outV {c : Cfg} (h : RefOk c) : 0 ≤ outV c ∧ outV c ≤ 10000000 := by
  have h1 := h.roundV; have h2 := h.mi
  unfold Proofs.YtopakilglnpinaaGreatDoor.outV
  refine ⟨Int.mul_nonneg (by omega) (by omega), ?_⟩
  have : (c.mi + 1) * Proofs.YtopakilglnpinaaGreatDoor.roundV c ≤ 101 * 65536 := Int.mul_le_mul (by omega) (by omega) (by omega) (by omega)
  omega
theorem RefOk.inV {c : Cfg} (h : RefOk c) : 0 ≤ inV c ∧ inV c ≤ 10000000 := by
  have h1 := h.roundV; have h2 := h.go
  unfold Proofs.YtopakilglnpinaaGreatDoor.inV
  refine ⟨Int.mul_nonneg (by omega) (by omega), ?_⟩
  have : (c.go + 1) * Proofs.YtopakilglnpinaaGreatDoor.roundV c ≤ 101 * 65536 := Int.mul_le_mul (by omega) (by omega) (by omega) (by omega)
  omega
theorem NetTab.at_ {S : Nat → Prop} {w w' : World} {p q : Nat} {A : CfA} {c : Cfg} {T : List Int} (h : NetTab S w p A q c T) (hb : Below w.heap.size w w') : NetTab S w' p A q c T := h.keep hb.size fun b _ hl => hb.block b hl
set_option maxRecDepth 100000 in
set_option maxHeartbeats 1000000 in
theorem start34_any (S : Nat → Prop) (p : Nat) (A : CfA) (q : Nat) (c : Cfg) (w : World) (h : NetAt S w p A q c) (hok : RefOk c) : Calls Tryz.prog 6 #[.pointer (some ⟨p, 0, none⟩)] w (RetI (startV c) w) := by
  have hB : Below w.heap.size w (w.alloc (.cells #[Value.pointer (some ⟨p, 0, none⟩)] 26)) := (Below.refl _ _).alloc (Nat.le_refl _) _
  have hK : Blk (w.alloc (.cells #[Value.pointer (some ⟨p, 0, none⟩)] 26)) w.heap.size 26 #[Value.pointer (some ⟨p, 0, none⟩)] := Blk.new _ _ _
  have HF : Hid (FormP 24 [.pointer (some ⟨w.heap.size, 0, none⟩)] c (startV c) (w.alloc (.cells #[Value.pointer (some ⟨p, 0, none⟩)] 26))) := Lib.hid fun w' hb => by
    have hn := NetTab.at_ (NetTab.at_ h hB) hb
    have hx := (hK.below hb hK.lt).cell 0
    have hx : w'.cell? ⟨w.heap.size, 0, none⟩ = some (.pointer (some ⟨p, 0, none⟩)) := hx
    obtain ⟨c0, c1, c2, c3, c4, c5, c6, c7, c8, c9, hpl⟩ := hn.cells
    have hbl := hn.cf.b.1
    have HM := Lib.hid (maxI_any _ A.ba A.bn A.bc c.B w' hn.cf.b hn.cf.cp.2.2.1.1 hn.cf.cp.2.2.1.2 (by have := hok.bl; have := hok.n; omega) hok.b)
    obtain ⟨m, hm⟩ : ∃ m, Hid (m = maxL c.B) := ⟨_, Lib.hid rfl⟩
    obtain ⟨z, hz⟩ : ∃ z, Hid (z = startV c) := ⟨_, Lib.hid rfl⟩
    rw [← hz.out]
    rw [← hm.out] at HM
    obtain ⟨N, hN⟩ : ∃ N, Hid (N = c.N) := ⟨_, Lib.hid rfl⟩
    rw [← hN.out]
    have hb1 : IntKind.i64.wrap (6 * N) = 6 * N := IntWalk.i64_in _ (by have := hN.out; have := hok.n; omega)
    have hb2 : IntKind.i64.wrap (m + 6 * N) = z := by
      have h1 := hm.out; have h2 := hN.out; have h3 := hz.out; have h4 := hok.startV
      rw [IntWalk.i64_in _ (by unfold startV at h4; rw [h1, h2]; omega), h1, h2, h3]
      rfl
    clear c0 c1 c2 c3 c5 c6 c7 c8 c9 hn h hok hbl
    go_enter Tryz.func24, Tryz.ntmps24
    go_wp2_with fail
    (with_reducible refine HM.out.mono ?_)
    rintro e w2 ⟨rfl, rfl⟩
    go_wp2_with fail
    go_ret
    exact ⟨rfl, Below.refl _ _⟩
  have HO := Lib.hid (of34_any S p A q c _ (NetTab.at_ h hB) hok 24 _ _ (enters_of Tryz.func24 (by kernel_rfl) rfl) HF.out)
  have HB := Lib.hid hB
  clear hB hK HF h hok
  go_enter Tryz.func6, Tryz.ntmps6
  go_wp2_with fail
  (with_reducible refine HO.out.mono ?_)
  rintro e w2 ⟨rfl, hb2⟩
  have HB2 := Lib.hid (HB.out.trans (hb2.mono HB.out.size))
  clear hb2
  go_wp2_with fail
  go_ret
  exact ⟨rfl, HB2.out⟩
end Go.Proofs.YtopakilglnpinaaGreatDoor
