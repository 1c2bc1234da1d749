/-
  Configs (chapter 4): a net's round; bounds (chapter 34): of a net. Configs (chapter 4): what a net tells.
-/
import Derived.Test.YtnckfjmaochnkaaGreatDoorGd37
namespace Go.Proofs.YtnckfjmaochnkaaGreatDoor
open Go.RowKit
set_option linter.unusedVariables false
set_option linter.unusedSimpArgs false

/-- the cells of a net -/
structure NetC (w : World) (p : Nat) (A : CfA) (q : Nat) (c : Cfg) : Prop where
  c0 : w.cell? ⟨p, 0, none⟩ = some (.int .i64 c.N)
  c1 : w.cell? ⟨p, 1, none⟩ = some (.slice A.pa A.pn A.pc)
  c2 : w.cell? ⟨p, 2, none⟩ = some (.slice A.sa A.sn A.sc)
  c3 : w.cell? ⟨p, 3, none⟩ = some (.int .i64 c.lo)
  c4 : w.cell? ⟨p, 4, none⟩ = some (.slice A.ba A.bn A.bc)
  c5 : w.cell? ⟨p, 5, none⟩ = some (.slice A.ta A.tn A.tc)
  c6 : w.cell? ⟨p, 6, none⟩ = some (.int .i64 c.mi)
  c7 : w.cell? ⟨p, 7, none⟩ = some (.int .i64 c.go)
  c8 : w.cell? ⟨p, 8, none⟩ = some (.int .i64 c.fr)
  c9 : w.cell? ⟨p, 9, none⟩ = some (.slice (some ⟨q, 0, none⟩) c.N.toNat c.N.toNat)
  pl : p < w.heap.size
theorem NetTab.cells {S : Nat → Prop} {w : World} {p q : Nat} {A : CfA} {c : Cfg} {T : List Int} (h : NetTab S w p A q c T) : NetC w p A q c :=
  ⟨h.blk.cell 0, h.blk.cell 1, h.blk.cell 2, h.blk.cell 3, h.blk.cell 4, h.blk.cell 5, h.blk.cell 6, h.blk.cell 7, h.blk.cell 8, h.blk.cell 9, h.blk.lt⟩
theorem NetTab.at_ {S : Nat → Prop} {w w' : World} {p q : Nat} {A : CfA} {c : Cfg} {T : List Int} (h : NetTab S w p A q c T) (hb : Below w.heap.size w w') : NetTab S w' p A q c T := h.keep hb.size fun b _ hl => hb.block b hl
def thereP (b : Bool) (w : World) (e : Ending) (w' : World) : Prop := e = .returned (.bool b) ∧ w' = w
set_option maxRecDepth 100000 in
set_option maxHeartbeats 1000000 in
theorem there_any (p : Nat) (A : CfA) (q : Nat) (c : Cfg) (w : World) (h : NetC w p A q c) (hN : 4 ≤ c.N) : Calls Tryz.prog 31 #[.pointer (some ⟨p, 0, none⟩)] w (thereP true w) := by
  obtain ⟨n, hn, hn4⟩ : ∃ n : Nat, c.N.toNat = n ∧ 4 ≤ n := ⟨_, rfl, by omega⟩
  have c9 := h.c9
  rw [hn] at c9
  have h0 : (0 : Int) < n := by omega
  have h0' : 0 < n := by omega
  clear h hN hn
  go_enter Tryz.func31, Tryz.ntmps31
  go_wp2
  go_ret
  exact ⟨rfl, rfl⟩
set_option maxRecDepth 100000 in
theorem there_nil (w : World) : Calls Tryz.prog 31 #[.pointer none] w (thereP false w) := by
  go_enter Tryz.func31, Tryz.ntmps31
  go_wp2
  go_ret
  exact ⟨rfl, rfl⟩
set_option maxRecDepth 100000 in
theorem there_bare (p : Nat) (a : Option Addr) (cp : Nat) (w : World) (h : w.cell? ⟨p, 9, none⟩ = some (.slice a 0 cp)) : Calls Tryz.prog 31 #[.pointer (some ⟨p, 0, none⟩)] w (thereP false w) := by
  go_enter Tryz.func31, Tryz.ntmps31
  go_wp2
  go_ret
  exact ⟨rfl, rfl⟩
def roundV (c : Cfg) : Int := (c.Sl.length : Nat) * c.lo
theorem RefOk.roundV {c : Cfg} (h : RefOk c) : 120 ≤ roundV c ∧ roundV c ≤ 65536 := by
  obtain ⟨h1, h2⟩ := h.s
  obtain ⟨h3, h4⟩ := h.lo
  have h5 := h.n.1
  unfold Proofs.YtnckfjmaochnkaaGreatDoor.roundV
  constructor
  · have : (1 : Int) * 120 ≤ (c.Sl.length : Nat) * c.lo := Int.mul_le_mul (by omega) (by omega) (by omega) (by omega)
    omega
  · have : ((c.Sl.length : Nat) : Int) * c.lo ≤ 16 * 4096 := Int.mul_le_mul (by omega) (by omega) (by omega) (by omega)
    omega
theorem belowD (w : World) (n : Nat) : Below w.heap.size w (w.drewN n) := ⟨rfl, rfl, rfl, Nat.le_refl _, fun _ _ => rfl⟩
def RetI (z : Int) (w : World) (e : Ending) (w' : World) : Prop := e = .returned (.int .i64 z) ∧ Below w.heap.size w w'
set_option maxRecDepth 100000 in
set_option maxHeartbeats 1000000 in
theorem round4_any (S : Nat → Prop) (p : Nat) (A : CfA) (q : Nat) (c : Cfg) (w : World) (h : NetAt S w p A q c) (hok : RefOk c) : Calls Tryz.prog 11 #[.pointer (some ⟨p, 0, none⟩)] w (RetI (roundV c) w) := by
  have HT := Lib.hid (there_any p A q c w h.cells hok.n.1)
  obtain ⟨z, hz, hz1, hz2⟩ : ∃ z, z = roundV c ∧ 120 ≤ z ∧ z ≤ 65536 := ⟨_, rfl, hok.roundV⟩
  rw [← hz]
  have hsl := h.cf.s.1
  rw [roundV, hsl] at hz
  have hw : IntKind.i64.wrap ((A.sn : Int) * c.lo) = z := by rw [← hz]; exact IntWalk.i64_in _ (by omega)
  obtain ⟨c0, c1, c2, c3, c4, c5, c6, c7, c8, c9, -⟩ := h.cells
  clear h hz hsl hok c0 c1 c4 c5 c6 c7 c8 c9
  go_enter Tryz.func11, Tryz.ntmps11
  go_wp2_with fail
  (with_reducible refine HT.out.mono ?_)
  rintro e w' ⟨rfl, rfl⟩
  go_wp2_with fail
  go_quiet (fail)
  go_wp2_with fail
  go_ret
  exact ⟨rfl, belowD w' _⟩
/-! ### slices.Max -/
def maxL (l : List Int) : Int := l.foldl max 0
theorem foldl_max_ge (l : List Int) : ∀ a : Int, a ≤ l.foldl max a := by
  induction l with
  | nil => intro a; exact Int.le_refl _
  | cons x r ih => intro a; exact Int.le_trans (Int.le_max_left a x) (ih (max a x))
theorem foldl_max_le {l : List Int} {m : Int} : ∀ a : Int, a ≤ m → (∀ z ∈ l, z ≤ m) → l.foldl max a ≤ m := by
  induction l with
  | nil => intro a h _; exact h
  | cons x r ih => intro a h hl; exact ih _ (Int.max_le.2 ⟨h, hl x (by simp)⟩) fun z hz => hl z (by simp [hz])
theorem maxL_step {l : List Int} {k : Nat} {z : Int} (hz : l[k]? = some z) : maxL (l.take (k + 1)) = max (maxL (l.take k)) z := by
  rw [List.take_add_one, hz]
  simp [maxL]
end Go.Proofs.YtnckfjmaochnkaaGreatDoor
namespace Go.Proofs.YtnckfjmaochnkaaGreatDoor
open Go.RowKit
set_option linter.unusedVariables false
set_option linter.unusedSimpArgs false

def atE (zs : List Int) (i : Int) : Int := if 0 ≤ i ∧ i < zs.length then zs.getD i.toNat 0 else -1
set_option maxRecDepth 100000 in
set_option maxHeartbeats 1000000 in
theorem atC_any (S : Nat → Prop) (a : Option Addr) (len cap : Nat) (zs : List Int) (i : Int) (w : World) (h : RdZ S w a len zs) (hm1 : len ≤ cap) (hm2 : cap ≤ maxLen) : Calls Tryz.prog 91 #[.slice a len cap, .int .i64 i] w fun e w' => e = .returned (.int .i64 (atE zs i)) ∧ w' = w := by
  unfold maxLen at hm2
  have HR := Lib.hid h
  have hl := h.1
  clear h
  by_cases h0 : i < 0
  · have HE : Hid (atE zs i = -1) := Lib.hid (by rw [atE, if_neg (by omega)])
    go_enter Tryz.func91, Tryz.ntmps91
    go_wp2_with fail
    go_ret
    rw [HE.out]
    exact ⟨rfl, rfl⟩
  · obtain ⟨k, rfl⟩ : ∃ k : Nat, i = k := ⟨i.toNat, by omega⟩
    by_cases hk : k < len
    · obtain ⟨b, off, z, rfl, -, hbl, hz, hc⟩ := HR.out.at_ hk
      have HE : Hid (atE zs k = z) := Lib.hid (by rw [atE, if_pos (by omega)]; simp [List.getD_eq_getElem?_getD, hz])
      have hk' : ¬ (len : Int) ≤ k := by omega
      have hk2 : (k : Int) < len := by omega
      have hk0 : (0 : Int) ≤ k := by omega
      clear hz
      go_enter Tryz.func91, Tryz.ntmps91
      go_wp2_with fail
      go_ret
      rw [HE.out]
      exact ⟨rfl, rfl⟩
    · have HE : Hid (atE zs k = -1) := Lib.hid (by rw [atE, if_neg (by omega)])
      have hk' : (len : Int) ≤ k := by omega
      go_enter Tryz.func91, Tryz.ntmps91
      go_wp2_with fail
      go_ret
      rw [HE.out]
      exact ⟨rfl, rfl⟩
/-- a net's own: its pairs of nodes as a list of ints -/
theorem NetTab.tabZ {S : Nat → Prop} {w : World} {p q : Nat} {A : CfA} {c : Cfg} {T : List Int} (h : NetTab S w p A q c T) (hl : T.length = c.N.toNat) : RdZ S w (some ⟨q, 0, none⟩) c.N.toNat T :=
  ⟨hl, fun k z hz => ⟨q, 0, rfl, h.sq, h.tab.lt, by rw [h.tab.cell, List.getElem?_toArray, ints, List.getElem?_map, Nat.zero_add, hz]; rfl⟩⟩
theorem NetTab.cfS {S : Nat → Prop} {w : World} {p q : Nat} {A : CfA} {c : Cfg} {T : List Int} (h : NetTab S w p A q c T) : CfR S w A c := h.cf.mono fun b _ hb => hb.1
set_option maxRecDepth 100000 in
set_option maxHeartbeats 1000000 in
theorem firstN_any (S : Nat → Prop) (p : Nat) (A : CfA) (q : Nat) (c : Cfg) (w : World) (h : NetAt S w p A q c) (hN : 4 ≤ c.N) (k : Int) : Calls Tryz.prog 87 #[.pointer (some ⟨p, 0, none⟩), .int .i64 k] w fun e w' => e = .returned (.int .i64 (atE c.P k)) ∧ w' = w := by
  have HT := Lib.hid (there_any p A q c w h.cells hN)
  have HA := Lib.hid (atC_any S A.pa A.pn A.pc c.P k w (NetTab.cfS h).p h.cf.cp.1.1 h.cf.cp.1.2)
  obtain ⟨c0, c1, -⟩ := h.cells
  clear h hN c0
  go_enter Tryz.func87, Tryz.ntmps87
  go_wp2_with fail
  (with_reducible refine HT.out.mono ?_)
  rintro e w' ⟨rfl, rfl⟩
  go_wp2_with fail
  (with_reducible refine HA.out.mono ?_)
  rintro e w' ⟨rfl, rfl⟩
  go_wp2_with fail
  go_ret
  exact ⟨rfl, rfl⟩
set_option maxRecDepth 100000 in
set_option maxHeartbeats 1000000 in
theorem pairN_any (S : Nat → Prop) (p : Nat) (A : CfA) (q : Nat) (c : Cfg) (w : World) (h : NetAt S w p A q c) (hok : RefOk c) (k : Int) : Calls Tryz.prog 65 #[.pointer (some ⟨p, 0, none⟩), .int .i64 k] w fun e w' => e = .returned (.int .i64 (atE (pairsL c) k)) ∧ w' = w := by
  have HT := Lib.hid (there_any p A q c w h.cells hok.n.1)
  have HA := Lib.hid (atC_any S (some ⟨q, 0, none⟩) c.N.toNat c.N.toNat (pairsL c) k w (NetTab.tabZ h (by unfold pairsL; exact tabK_len _ _ _)) (Nat.le_refl _) (by unfold maxLen; have := hok.n; omega))
  obtain ⟨c0, c1, c2, c3, c4, c5, c6, c7, c8, c9, -⟩ := h.cells
  clear h hok c0 c1 c2 c3 c4 c5 c6 c7 c8
  go_enter Tryz.func65, Tryz.ntmps65
  go_wp2_with fail
  (with_reducible refine HT.out.mono ?_)
  rintro e w' ⟨rfl, rfl⟩
  go_wp2_with fail
  (with_reducible refine HA.out.mono ?_)
  rintro e w' ⟨rfl, rfl⟩
  go_wp2_with fail
  go_ret
  exact ⟨rfl, rfl⟩
set_option maxRecDepth 100000 in
set_option maxHeartbeats 1000000 in
theorem given_any (S : Nat → Prop) (p : Nat) (A : CfA) (q : Nat) (c : Cfg) (w : World) (h : NetAt S w p A q c) (hok : RefOk c) : Calls Tryz.prog 74 #[.pointer (some ⟨p, 0, none⟩)] w (OwnP c w) := by
  have hB0 : Below w.heap.size w (w.alloc (.cells cfZ.toArray 26)) := (Below.refl _ _).alloc (Nat.le_refl _) _
  have h1 := NetTab.at_ h hB0
  have HT := Lib.hid (there_any p A q c _ h1.cells hok.n.1)
  have hcf := NetTab.cfS h1
  have HO := Lib.hid (own_any S A c _ hcf (by have := hok.p; have := hcf.p.1; omega) (by have := hok.s; have := hcf.s.1; omega) (by have := hok.bl; have := hcf.b.1; have := hok.n; omega) (by have := hok.t; have := hcf.t.1; omega))
  obtain ⟨-, -, d3, d4, -⟩ := h1.blk.rules
  have e1 : hasRow (w.alloc (.cells cfZ.toArray 26)) ⟨p, 0, none⟩ 9 = true := by rw [d3]; simp [len_cfV]
  have e2 : rowOf (w.alloc (.cells cfZ.toArray 26)) ⟨p, 0, none⟩ 9 = cfV A c := by rw [d4 0 9 (by simp [len_cfV]), List.drop_zero, List.take_left' (len_cfV A c)]
  have HK := Lib.hid (And.intro hB0 (Blk.new w 26 cfZ.toArray))
  clear h hok hcf d3 d4 h1 hB0
  go_enter Tryz.func74, Tryz.ntmps74
  go_upto_region 1 with fail
  have hcz : (w.alloc (.cells #[Value.int .i64 0, .slice none 0 0, .slice none 0 0, .int .i64 0, .slice none 0 0, .slice none 0 0, .int .i64 0, .int .i64 0, .int .i64 0] 26)) = w.alloc (.cells cfZ.toArray 26) := rfl
  rw [hcz]
  generalize w.alloc (.cells cfZ.toArray 26) = w0 at HK HT HO e1 e2 ⊢
  go_wp2_with fail
  (with_reducible refine HT.out.mono ?_)
  rintro e w' ⟨rfl, rfl⟩
  go_wp2_with fail
  (with_reducible refine HO.out.mono ?_)
  rintro e w1 ⟨A2, rfl, hc2, hb2⟩
  obtain ⟨cv2, hcv2⟩ : ∃ cv2, cv2 = cfV A2 c := ⟨_, rfl⟩
  rw [← hcv2]
  have hvl2 : cv2.length = 9 := by rw [hcv2]; rfl
  have hvc : cv2.all cell1 = true := by rw [hcv2]; rfl
  have n1 := HK.out.2.below hb2 HK.out.2.lt
  obtain ⟨-, -, r3⟩ := n1.whole (n := 9) rfl
  obtain ⟨p1, p2, -⟩ := (n1.put_all (l := cv2) (by rw [hvl2]; rfl)).whole hvl2
  have hfin : OwnP c w (.returned (.agg cv2.toArray)) (putRow w1 ⟨w.heap.size, 0, none⟩ cv2) := by
    have hz := HK.out.1.size
    have hz2 := HK.out.2.lt
    refine ⟨A2, by rw [hcv2], (hc2.keep (by simp) fun b hS hl => putRow_other _ _ _ _ (by simp; omega)).mono fun b _ hS => by omega, ?_⟩
    exact Below.put (HK.out.1.trans (hb2.mono hz)) (by simp) _
  have HF := Lib.hid (And.intro p1 (And.intro p2 hfin))
  clear p1 p2 hfin n1 hc2 hb2 hcv2
  go_wp2_with fail
  try simp only [Exit.inBlock, Exit.then]
  first | refine bodyPost_ret (ret_rowB (n := 9) rfl (by kernel_rfl) _ _ _ rfl ?_) rfl ?_ | refine bodyPost_end (ret_rowB (n := 9) rfl (by kernel_rfl) _ _ _ rfl ?_) rfl ?_
  · exact HF.out.1
  · rw [HF.out.2.1]
    exact HF.out.2.2
end Go.Proofs.YtnckfjmaochnkaaGreatDoor
