
/-
  Configs (chapter 4): a net's round; bounds (chapter 34): of a net.
-/
import Derived.Test.YtopakilglnpinaaGreatDoorBn21
namespace Go.Proofs.YtopakilglnpinaaGreatDoor
open Go.RowKit
set_option linter.unusedVariables false
set_option linter.unusedSimpArgs false

/-- the cells of a net -/
structure NetC (w : World) (p : Nat) (A : CfA) (q : Nat) (c : Cfg) : Prop where
  c0 : w.cell? ⟨p, 0, none⟩ = some (.int .i64 c.N)
  c1 : w.cell? ⟨p, 1, none⟩ = some (.slice A.pa A.pn A.pc)
  c2 : w.cell? ⟨p, 2, none⟩ = some (.slice A.sa A.sn A.sc)
  c3 : w.cell? ⟨p, 3, none⟩ = some (.int .i64 c.lo)
  c4 : w.cell? ⟨p, 4, none⟩ = some (.slice A.ba A.bn A.bc)
  c5 : w.cell? ⟨p, 5, none⟩ = some (.slice A.ta A.tn A.tc)
  c6 : w.cell? ⟨p, 6, none⟩ = some (.int .i64 c.mi)
  c7 : w.cell? ⟨p, 7, none⟩ = some (.int .i64 c.go)
  c8 : w.cell? ⟨p, 8, none⟩ = some (.int .i64 c.fr)
  c9 : w.cell? ⟨p, 9, none⟩ = some (.slice (some ⟨q, 0, none⟩) c.N.toNat c.N.toNat)
  pl : p < w.heap.size
theorem NetTab.cells {S : Nat → Prop} {w : World} {p q : Nat} {A : CfA} {c : Cfg} {T : List Int} (h : NetTab S w p A q c T) : NetC w p A q c :=
  ⟨h.blk.cell 0, h.blk.cell 1, h.blk.cell 2, h.blk.cell 3, h.blk.cell 4, h.blk.cell 5, h.blk.cell 6, h.blk.cell 7, h.blk.cell 8, h.blk.cell 9, h.blk.lt⟩
def thereP (b : Bool) (w : World) (e : Ending) (w' : World) : Prop := e = .returned (.bool b) ∧ w' = w
set_option maxRecDepth 100000 in
set_option maxHeartbeats 1000000 in
theorem there_any (p : Nat) (A : CfA) (q : Nat) (c : Cfg) (w : World) (h : NetC w p A q c) (hN : 4 ≤ c.N) : Calls Tryz.prog 40 #[.pointer (some ⟨p, 0, none⟩)] w (thereP true w) := by
  obtain ⟨n, hn, hn4⟩ : ∃ n : Nat, c.N.toNat = n ∧ 4 ≤ n := ⟨_, rfl, by omega⟩
  have c9 := h.c9
  rw [hn] at c9
  have h0 : (0 : Int) < n := by omega
  have h0' : 0 < n := by omega
  clear h hN hn
  go_enter Tryz.func40, Tryz.ntmps40
  go_wp2
  go_ret
  exact ⟨rfl, rfl⟩
set_option maxRecDepth 100000 in
theorem there_nil (w : World) : Calls Tryz.prog 40 #[.pointer none] w (thereP false w) := by
  go_enter Tryz.func40, Tryz.ntmps40
  go_wp2
  go_ret
  exact ⟨rfl, rfl⟩
set_option maxRecDepth 100000 in
theorem there_bare (p : Nat) (a : Option Addr) (cp : Nat) (w : World) (h : w.cell? ⟨p, 9, none⟩ = some (.slice a 0 cp)) : Calls Tryz.prog 40 #[.pointer (some ⟨p, 0, none⟩)] w (thereP false w) := by
  go_enter Tryz.func40, Tryz.ntmps40
  go_wp2
  go_ret
  exact ⟨rfl, rfl⟩
def roundV (c : Cfg) : Int := (c.Sl.length : Nat) * c.lo
theorem RefOk.roundV {c : Cfg} (h : RefOk c) : 120 ≤ roundV c ∧ roundV c ≤ 65536 := by
  obtain ⟨h1, h2⟩ := h.s
  obtain ⟨h3, h4⟩ := h.lo
  have h5 := h.n.1
  unfold Proofs.YtopakilglnpinaaGreatDoor.roundV
  constructor
  · have : (1 : Int) * 120 ≤ (c.Sl.length : Nat) * c.lo := Int.mul_le_mul (by omega) (by omega) (by omega) (by omega)
    omega
  · have : ((c.Sl.length : Nat) : Int) * c.lo ≤ 16 * 4096 := Int.mul_le_mul (by omega) (by omega) (by omega) (by omega)
    omega
theorem belowD (w : World) (n : Nat) : Below w.heap.size w (w.drewN n) := ⟨rfl, rfl, rfl, Nat.le_refl _, fun _ _ => rfl⟩
def RetI (z : Int) (w : World) (e : Ending) (w' : World) : Prop := e = .returned (.int .i64 z) ∧ Below w.heap.size w w'
set_option maxRecDepth 100000 in
set_option maxHeartbeats 1000000 in
theorem round4_any (S : Nat → Prop) (p : Nat) (A : CfA) (q : Nat) (c : Cfg) (w : World) (h : NetAt S w p A q c) (hok : RefOk c) : Calls Tryz.prog 29 #[.pointer (some ⟨p, 0, none⟩)] w (RetI (roundV c) w) := by
  have HT := Lib.hid (there_any p A q c w h.cells hok.n.1)
  obtain ⟨z, hz, hz1, hz2⟩ : ∃ z, z = roundV c ∧ 120 ≤ z ∧ z ≤ 65536 := ⟨_, rfl, hok.roundV⟩
  rw [← hz]
  have hsl := h.cf.s.1
  rw [roundV, hsl] at hz
  have hw : IntKind.i64.wrap ((A.sn : Int) * c.lo) = z := by rw [← hz]; exact IntWalk.i64_in _ (by omega)
  obtain ⟨c0, c1, c2, c3, c4, c5, c6, c7, c8, c9, -⟩ := h.cells
  clear h hz hsl hok c0 c1 c4 c5 c6 c7 c8 c9
  go_enter Tryz.func29, Tryz.ntmps29
  go_wp2_with fail
  (with_reducible refine HT.out.mono ?_)
  rintro e w' ⟨rfl, rfl⟩
  go_wp2_with fail
  go_quiet (fail)
  go_wp2_with fail
  go_ret
  exact ⟨rfl, belowD w' _⟩
/-! ### slices.Max -/
def maxL (l : List Int) : Int := l.foldl max 0
theorem foldl_max_ge (l : List Int) : ∀ a : Int, a ≤ l.foldl max a := by
  induction l with
  | nil => intro a; exact Int.le_refl _
  | cons x r ih => intro a; exact Int.le_trans (Int.le_max_left a x) (ih (max a x))
theorem foldl_max_le {l : List Int} {m : Int} : ∀ a : Int, a ≤ m → (∀ z ∈ l, z ≤ m) → l.foldl max a ≤ m := by
  induction l with
  | nil => intro a h _; exact h
  | cons x r ih => intro a h hl; exact ih _ (Int.max_le.2 ⟨h, hl x (by simp)⟩) fun z hz => hl z (by simp [hz])
theorem maxL_step {l : List Int} {k : Nat} {z : Int} (hz : l[k]? = some z) : maxL (l.take (k + 1)) = max (maxL (l.take k)) z := by
  rw [List.take_add_one, hz]
  simp [maxL]
set_option maxRecDepth 100000 in
set_option maxHeartbeats 1000000 in
theorem maxI_any (S : Nat → Prop) (a : Option Addr) (len cap : Nat) (zs : List Int) (w : World) (h : RdZ S w a len zs) (hm1 : len ≤ cap) (hm2 : cap ≤ maxLen) (h0 : 0 < len) (hp : ∀ z ∈ zs, 0 ≤ z ∧ z ≤ 4096) :
    Calls Tryz.prog 25 #[.slice a len cap] w fun e w' => e = .returned (.int .i64 (maxL zs)) ∧ w' = w := by
  unfold maxLen at hm2
  have HR := Lib.hid h
  have HP := Lib.hid hp
  obtain ⟨b, off, z0, rfl, -, -, hz0, hc0⟩ := h.at_ h0
  have h1 : ¬ (len : Int) < 1 := by omega
  have h2 : 0 < len := h0
  have hc0' : w.cell? ⟨b, off, none⟩ = some (.int .i64 z0) := hc0
  have HZ0 := Lib.hid hz0
  clear h hp hz0 hc0
  go_enter Tryz.func25, Tryz.ntmps25
  go_wp2_with fail
  go_loopw [4, 3] (fun i m wr => ∃ k : Nat, 1 ≤ k ∧ k ≤ len ∧ i = .int .i64 k ∧ Hid (m = .int .i64 (maxL (zs.take k))) ∧ wr = w) (fun i _ _ => len - (intOf i).toNat)
  case atStart =>
    refine ⟨1, by omega, by omega, rfl, Lib.hid ?_, rfl⟩
    have := maxL_step HZ0.out
    rw [Nat.zero_add] at this
    rw [this]
    have hz := (HP.out z0 (List.mem_of_getElem? HZ0.out)).1
    simp [maxL]
    omega
  case round =>
    obtain ⟨k, hk1, hk, rfl, HM, rfl⟩ := hrel
    obtain ⟨mx, hmx⟩ : ∃ mx, Hid (mx = maxL (zs.take k)) := ⟨_, Lib.hid rfl⟩
    have hmm := HM.out
    rw [← hmx.out] at hmm
    subst hmm
    by_cases hlt : k < len
    · obtain ⟨b2, off2, z, he, -, -, hz, hc⟩ := HR.out.at_ hlt
      simp only [Option.some.injEq, Addr.mk.injEq] at he
      obtain ⟨rfl, rfl, -⟩ := he
      have hlt' : (k : Int) < len := by omega
      have hk0 : (0 : Int) ≤ k := by omega
      have HN : Hid (max mx z = maxL (zs.take (k + 1))) := Lib.hid (by rw [maxL_step hz, hmx.out])
      clear hz
      go_wp2_with fail
      exact ⟨⟨k + 1, by omega, by omega, by go_num, Lib.hid (by rw [HN.out]), trivial⟩, by simp [intOf]; omega⟩
    · obtain rfl : k = len := by omega
      have hlt' : ¬ (k : Int) < k := by omega
      have HN : Hid (mx = maxL zs) := Lib.hid (by rw [hmx.out, List.take_of_length_le (by rw [HR.out.1]; omega)])
      go_wp2_with fail
      go_ret
      rw [HN.out]
      exact ⟨rfl, rfl⟩
end Go.Proofs.YtopakilglnpinaaGreatDoor
