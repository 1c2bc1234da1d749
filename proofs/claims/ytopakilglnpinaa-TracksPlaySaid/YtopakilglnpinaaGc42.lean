/-
  sennitlaw14.lives, walked.
-/
import Derived.Test.YtopakilglnpinaaGc41
namespace Go.Proofs.Ytopakilglnpinaa
open Go.RowKit
set_option linter.unusedVariables false
set_option linter.unusedSimpArgs false

/-- the example's row, its list and its word -/
structure Ex3 (w1 w3 : World) : Prop where
  t : Blk w3 w1.heap.size 90 (zrep heldZ 4).toArray
  r : Blk w3 (w1.heap.size + 1) 54 (rx.vals (.slice (some ⟨w1.heap.size, 0, none⟩) 4 4)).toArray
  s : Blk w3 (w1.heap.size + 1 + 1) 54 (rx.vals (.slice (some ⟨w1.heap.size, 0, none⟩) 4 4)).toArray
  w : Blk w3 (w1.heap.size + 1 + 1 + 1) 34 #[Value.slice (some ⟨w1.heap.size + 1 + 1, 0, none⟩) 1 1]
  sz : w3.heap.size = w1.heap.size + 1 + 1 + 1 + 1
  bel : Below w1.heap.size w1 w3
theorem ex3_of (w1 : World) : Ex3 w1 ((((w1.alloc (.cells (zrep heldZ 4).toArray 90)).alloc (.cells (Value.bool true :: Value.int .i64 7 :: (cellR ++ [Value.slice (some ⟨w1.heap.size, 0, none⟩) 4 4])).toArray 54)).alloc (.cells (Value.bool true :: Value.int .i64 7 :: (cellR ++ [Value.slice (some ⟨w1.heap.size, 0, none⟩) 4 4])).toArray 54)).alloc (.cells #[Value.slice (some ⟨w1.heap.size + 1 + 1, 0, none⟩) 1 1] 34)) := by
  have s1 : (w1.alloc (.cells (zrep heldZ 4).toArray 90)).heap.size = w1.heap.size + 1 := by simp
  have s2 : ((w1.alloc (.cells (zrep heldZ 4).toArray 90)).alloc (.cells (Value.bool true :: Value.int .i64 7 :: (cellR ++ [Value.slice (some ⟨w1.heap.size, 0, none⟩) 4 4])).toArray 54)).heap.size = w1.heap.size + 1 + 1 := by simp
  have s3 : (((w1.alloc (.cells (zrep heldZ 4).toArray 90)).alloc (.cells (Value.bool true :: Value.int .i64 7 :: (cellR ++ [Value.slice (some ⟨w1.heap.size, 0, none⟩) 4 4])).toArray 54)).alloc (.cells (Value.bool true :: Value.int .i64 7 :: (cellR ++ [Value.slice (some ⟨w1.heap.size, 0, none⟩) 4 4])).toArray 54)).heap.size = w1.heap.size + 1 + 1 + 1 := by simp
  have k1 := Blk.new (w1.alloc (.cells (zrep heldZ 4).toArray 90)) 54 (Value.bool true :: Value.int .i64 7 :: (cellR ++ [Value.slice (some ⟨w1.heap.size, 0, none⟩) 4 4])).toArray
  have k2 := Blk.new ((w1.alloc (.cells (zrep heldZ 4).toArray 90)).alloc (.cells (Value.bool true :: Value.int .i64 7 :: (cellR ++ [Value.slice (some ⟨w1.heap.size, 0, none⟩) 4 4])).toArray 54)) 54 (Value.bool true :: Value.int .i64 7 :: (cellR ++ [Value.slice (some ⟨w1.heap.size, 0, none⟩) 4 4])).toArray
  have k3 := Blk.new (((w1.alloc (.cells (zrep heldZ 4).toArray 90)).alloc (.cells (Value.bool true :: Value.int .i64 7 :: (cellR ++ [Value.slice (some ⟨w1.heap.size, 0, none⟩) 4 4])).toArray 54)).alloc (.cells (Value.bool true :: Value.int .i64 7 :: (cellR ++ [Value.slice (some ⟨w1.heap.size, 0, none⟩) 4 4])).toArray 54)) 34 #[Value.slice (some ⟨w1.heap.size + 1 + 1, 0, none⟩) 1 1]
  rw [s1] at k1
  rw [s2] at k2
  rw [s3] at k3
  exact ⟨(((Blk.new w1 _ _).alloc _).alloc _).alloc _, (k1.alloc _).alloc _, k2.alloc _, k3, by simp, ((((Below.refl _ _).alloc (Nat.le_refl _) _).alloc (by simp) _).alloc (by simp; omega) _).alloc (by simp; omega) _⟩
/-- what is read of it as long as its blocks stay -/
theorem Ex3.rd {w1 w3 w' : World} (h : Ex3 w1 w3) (hk : ∀ b, w1.heap.size ≤ b → b < w3.heap.size → w'.heap[b]? = w3.heap[b]?) :
    RdRs (fun b => b = w1.heap.size + 1 + 1 ∨ b = w1.heap.size) w' (some ⟨w1.heap.size + 1 + 1, 0, none⟩) 1 [rx] ∧ RowR (fun b => b = w1.heap.size) w' rx (.slice (some ⟨w1.heap.size, 0, none⟩) 4 4) ∧ Blk w' (w1.heap.size + 1) 54 (rx.vals (.slice (some ⟨w1.heap.size, 0, none⟩) 4 4)).toArray ∧ w'.cell? ⟨w1.heap.size + 1 + 1 + 1, 0, none⟩ = some (.slice (some ⟨w1.heap.size + 1 + 1, 0, none⟩) 1 1) := by
  have hz := h.sz
  have kt : Blk w' w1.heap.size 90 (zrep heldZ 4).toArray := (hk _ (by omega) (by omega)).trans h.t
  have kr : Blk w' (w1.heap.size + 1) 54 (rx.vals (.slice (some ⟨w1.heap.size, 0, none⟩) 4 4)).toArray := (hk _ (by omega) (by omega)).trans h.r
  have ks : Blk w' (w1.heap.size + 1 + 1) 54 (rx.vals (.slice (some ⟨w1.heap.size, 0, none⟩) 4 4)).toArray := (hk _ (by omega) (by omega)).trans h.s
  have kw : Blk w' (w1.heap.size + 1 + 1 + 1) 34 #[Value.slice (some ⟨w1.heap.size + 1 + 1, 0, none⟩) 1 1] := (hk _ (by omega) (by omega)).trans h.w
  have hr : RdHs (· = w1.heap.size) w' (some ⟨w1.heap.size, 0, none⟩) 4 rx.t := by
    rw [flatH_rep] at kt
    exact RdHs.of_blk (l := List.replicate 4 hd0) (r := []) (by simpa using kt) (fun x hx => by rw [List.eq_of_mem_replicate hx]; exact hd0_ok)
  obtain ⟨q1, q2, -⟩ := ks.whole (n := 57) (Rw.len rx_ok _)
  have hc := kw.cell 0
  simp at hc
  refine ⟨⟨rfl, fun r hr => by simp at hr; rw [hr]; exact rx_ok, fun k r hk => ?_⟩, ⟨_, 4, 4, rfl, hr, Nat.le_refl _, by simp [maxLen]⟩, kr, hc⟩
  cases k with
  | zero =>
    simp at hk
    subst hk
    exact ⟨w1.heap.size + 1 + 1, 0, _, 4, 4, rfl, .inl rfl, ks.lt, by simpa using q1, by simpa using q2, hr.mono (fun b _ e => .inr e), Nat.le_refl _, by simp [maxLen]⟩
  | succ k => simp at hk
def HearV (w w1 w3 : World) (p gp : Nat) (S : Nat → Prop) (L : LaneM) (ins : Nat → List Rw) (wr : World) (e : Ending) (w' : World) : Prop :=
  ∃ (m : Nat) (G' : Nat → Nat) (g : Nat), e = .returned (.slice (some ⟨g, 0, none⟩) 4 4) ∧ LvI w w1 w3 p gp G' (GrowS S wr.heap.size m) (L.put ins) w' ∧ wr.heap.size ≤ m ∧ m ≤ g ∧ RowsB (fun b => m ≤ b ∧ b ≠ g) w' g 54 (tab 4 (L.put ins).held) ∧ Chg (fun b => b = p ∨ b = gp) wr w'
theorem LvI.hear {w w1 w3 : World} {p gp : Nat} {G : Nat → Nat} {S R : Nat → Prop} {L : LaneM} {wr : World} {a : Nat → Option Addr} {ln cp : Nat → Nat} {ins : Nat → List Rw} (h : LvI w w1 w3 p gp G S L wr) (hI : InsR R wr a ln cp ins) (hR : ∀ b, R b → b ≠ p ∧ b ≠ gp) (hn : L.n = 4) (hT : L.T ≤ 1000) (hins : ∀ i, ∀ r ∈ ins i, r.ok) :
    Calls Try.prog 10 #[.pointer (some ⟨p, 0, none⟩), .agg #[insV a ln cp 0, insV a ln cp 1, insV a ln cp 2, insV a ln cp 3]] wr (HearV w w1 w3 p gp S L ins wr) := by
  refine (hear_any S R p gp G L a ln cp ins wr h.l hI hR (by omega) hins).mono ?_
  rintro e w' ⟨m, G', g, hm, hl, rfl, hg, hr, hc⟩
  rw [hn] at hr ⊢
  exact ⟨m, G', g, rfl, h.next hm hl hc (fun b hb => by rcases hb with rfl | rfl; exact h.l.sp; exact h.l.sg), hm, hg, hr, hc⟩
theorem LvI.hearNo {w w1 w3 : World} {p gp : Nat} {G : Nat → Nat} {S : Nat → Prop} {L : LaneM} {wr : World} (h : LvI w w1 w3 p gp G S L wr) (hn : L.n = 4) (hT : L.T ≤ 1000) :
    Calls Try.prog 10 #[.pointer (some ⟨p, 0, none⟩), .agg #[.slice none 0 0, .slice none 0 0, .slice none 0 0, .slice none 0 0]] wr (HearV w w1 w3 p gp S L iNo wr) := by
  have := h.hear (insR_no wr) (fun _ h => h.elim) hn hT iNo_ok
  have e : ∀ i, insV (fun _ => none) (fun _ => 0) (fun _ => 0) i = .slice none 0 0 := fun _ => rfl
  rw [e, e, e, e] at this
  exact this
theorem LvI.apart {w w1 w3 : World} {p gp : Nat} {G : Nat → Nat} {S : Nat → Prop} {L : LaneM} {wr : World} (h : LvI w w1 w3 p gp G S L wr) (h3 : Ex3 w1 w3) : ∀ b, (b = w1.heap.size + 1 + 1 ∨ b = w1.heap.size) → b ≠ p ∧ b ≠ gp := fun b hb => by
  have h1 := (h.s p h.l.sp).2
  have h2 := (h.s gp h.l.sg).2
  have := h3.sz
  omega
theorem LvI.hear0 {w w1 w3 : World} {p gp : Nat} {G : Nat → Nat} {S : Nat → Prop} {L : LaneM} {wr : World} (h : LvI w w1 w3 p gp G S L wr) (h3 : Ex3 w1 w3) (hn : L.n = 4) (hT : L.T ≤ 1000) :
    Calls Try.prog 10 #[.pointer (some ⟨p, 0, none⟩), .agg #[.slice (some ⟨w1.heap.size + 1 + 1, 0, none⟩) 1 1, .slice none 0 0, .slice none 0 0, .slice none 0 0]] wr (HearV w w1 w3 p gp S L (iAt 0) wr) := by
  have := h.hear (insR_at (k := 0) (h3.rd h.k).1) (h.apart h3) hn hT (iAt_ok 0)
  have e0 : insV (fun i => if i = 0 then some ⟨w1.heap.size + 1 + 1, 0, none⟩ else none) (fun i => if i = 0 then 1 else 0) (fun i => if i = 0 then 1 else 0) 0 = .slice (some ⟨w1.heap.size + 1 + 1, 0, none⟩) 1 1 := rfl
  have e1 : insV (fun i => if i = 0 then some ⟨w1.heap.size + 1 + 1, 0, none⟩ else none) (fun i => if i = 0 then 1 else 0) (fun i => if i = 0 then 1 else 0) 1 = .slice none 0 0 := rfl
  have e2 : insV (fun i => if i = 0 then some ⟨w1.heap.size + 1 + 1, 0, none⟩ else none) (fun i => if i = 0 then 1 else 0) (fun i => if i = 0 then 1 else 0) 2 = .slice none 0 0 := rfl
  have e3 : insV (fun i => if i = 0 then some ⟨w1.heap.size + 1 + 1, 0, none⟩ else none) (fun i => if i = 0 then 1 else 0) (fun i => if i = 0 then 1 else 0) 3 = .slice none 0 0 := rfl
  rw [e0, e1, e2, e3] at this
  exact this
theorem LvI.hear3 {w w1 w3 : World} {p gp : Nat} {G : Nat → Nat} {S : Nat → Prop} {L : LaneM} {wr : World} (h : LvI w w1 w3 p gp G S L wr) (h3 : Ex3 w1 w3) (hn : L.n = 4) (hT : L.T ≤ 1000) :
    Calls Try.prog 10 #[.pointer (some ⟨p, 0, none⟩), .agg #[.slice none 0 0, .slice none 0 0, .slice none 0 0, .slice (some ⟨w1.heap.size + 1 + 1, 0, none⟩) 1 1]] wr (HearV w w1 w3 p gp S L (iAt 3) wr) := by
  have := h.hear (insR_at (k := 3) (h3.rd h.k).1) (h.apart h3) hn hT (iAt_ok 3)
  have e0 : insV (fun i => if i = 3 then some ⟨w1.heap.size + 1 + 1, 0, none⟩ else none) (fun i => if i = 3 then 1 else 0) (fun i => if i = 3 then 1 else 0) 0 = .slice none 0 0 := rfl
  have e1 : insV (fun i => if i = 3 then some ⟨w1.heap.size + 1 + 1, 0, none⟩ else none) (fun i => if i = 3 then 1 else 0) (fun i => if i = 3 then 1 else 0) 1 = .slice none 0 0 := rfl
  have e2 : insV (fun i => if i = 3 then some ⟨w1.heap.size + 1 + 1, 0, none⟩ else none) (fun i => if i = 3 then 1 else 0) (fun i => if i = 3 then 1 else 0) 2 = .slice none 0 0 := rfl
  have e3 : insV (fun i => if i = 3 then some ⟨w1.heap.size + 1 + 1, 0, none⟩ else none) (fun i => if i = 3 then 1 else 0) (fun i => if i = 3 then 1 else 0) 3 = .slice (some ⟨w1.heap.size + 1 + 1, 0, none⟩) 1 1 := rfl
  rw [e0, e1, e2, e3] at this
  exact this
def SayV (w w1 w3 : World) (p gp : Nat) (G : Nat → Nat) (S : Nat → Prop) (L : LaneM) (wr : World) (e : Ending) (w' : World) : Prop :=
  ∃ (m g0 g1 : Nat), e = .returned (.tuple #[.agg #[.slice (some ⟨g0, 0, none⟩) 4 4], .agg #[.slice (some ⟨g1, 0, none⟩) 4 4]]) ∧ LvI w w1 w3 p gp G (GrowS S wr.heap.size m) (L.said rw0) w' ∧ wr.heap.size ≤ m ∧ m ≤ g0 ∧ m ≤ g1 ∧ g0 ≠ g1 ∧
    RowsB (fun b => m ≤ b ∧ b ≠ g0 ∧ b ≠ g1) w' g0 54 ((L.said rw0).out 0) ∧ RowsB (fun b => m ≤ b ∧ b ≠ g0 ∧ b ≠ g1) w' g1 54 ((L.said rw0).out 2)
theorem LvI.say {w w1 w3 : World} {p gp : Nat} {G : Nat → Nat} {S : Nat → Prop} {L : LaneM} {wr : World} (h : LvI w w1 w3 p gp G S L wr) (hn : L.n = 4) (hb : L.b = true) (hT : 0 < L.T) (hT2 : L.T ≤ 1000) :
    Calls Try.prog 14 #[.pointer (some ⟨p, 0, none⟩), .agg rowZ.toArray] wr (SayV w w1 w3 p gp G S L wr) := by
  have := say_any S (fun _ => False) p gp G L rw0 rw0_ok (.slice none 0 0) wr h.l hb hT (by omega) (rowR_nil _ _ _ rfl) (fun _ h => h.elim)
  rw [rw0_vals] at this
  refine this.mono ?_
  rintro e w' ⟨m, g0, g1, hm, hl, rfl, h0, h1, hne, r0, r1, hc⟩
  rw [hn]
  exact ⟨m, g0, g1, rfl, h.next hm hl hc (fun _ h => h), hm, h0, h1, hne, r0, r1⟩
set_option maxRecDepth 100000 in
set_option maxHeartbeats 4000000 in
theorem lives14_any (w : World) : Calls Try.prog 5 #[] w fun e w' => e = .returned (.bool true) ∧ Below w.heap.size w w' := by
  have hN := Lib.hid (new_ok 4 1 (by omega) (by omega) (by omega) w)
  go_enter Try.func5, Try.ntmps5
  go_wp2_with fail
  refine hN.out.mono ?_
  rintro e w1 ⟨p, gp, rfl, hl0, hb0⟩
  have H0 := Lib.hid (And.intro hl0 hb0)
  have hm4 : madeOk (.int .i64 4) (.int .i64 4) = true := by decide
  have hl4 : lenV (.int .i64 4) = 4 := rfl
  have hcr := cellR_cell1
  have hlr := len_cellR
  have htk : ∀ v : Value, List.take 55 (cellR ++ [v]) = cellR ++ [v] := fun v => List.take_of_length_le (by simp [len_cellR])
  clear hl0 hb0 hN
  go_upto_region 4 with fail
  have H3 := Lib.hid (ex3_of w1)
  generalize ((((w1.alloc (.cells (zrep heldZ 4).toArray 90)).alloc (.cells (Value.bool true :: Value.int .i64 7 :: (cellR ++ [Value.slice (some ⟨w1.heap.size, 0, none⟩) 4 4])).toArray 54)).alloc (.cells (Value.bool true :: Value.int .i64 7 :: (cellR ++ [Value.slice (some ⟨w1.heap.size, 0, none⟩) 4 4])).toArray 54)).alloc (.cells #[Value.slice (some ⟨w1.heap.size + 1 + 1, 0, none⟩) 1 1] 34)) = w3 at H3 ⊢
  have HV3 : Hid (∃ S, LvI w w1 w3 p gp (fun _ => 0) S lv0 w3) := Lib.hid (by
    have hz := H3.out.sz
    exact ⟨_, H0.out.1.below H3.out.bel, fun b hb => ⟨hb.1, .inl hb.2⟩, fun _ _ _ => rfl, H0.out.2.trans (H3.out.bel.mono H0.out.2.size), H0.out.2.size, by omega, Nat.le_refl _⟩)
  obtain ⟨S0, hv0⟩ := HV3.out
  have HV0 := Lib.hid hv0
  have HC := Lib.hid (HV0.out.hearNo rfl (by simp [lv0, LaneM.new]))
  clear hv0 HV3 htk hcr hlr hm4 hl4
  go_wp2_with fail
  (with_reducible refine HC.out.mono ?_)
  rintro e w4 ⟨m4, G4, g4, rfl, hv, -, -, -, -⟩
  have HV4 := Lib.hid hv
  clear hv HC HV0
  obtain ⟨-, -, -, c4⟩ := H3.out.rd HV4.out.k
  have HC := Lib.hid (HV4.out.hear0 H3.out rfl (by simp [lv0, LaneM.new, LaneM.put]))
  go_wp2_with fail
  (with_reducible refine HC.out.mono ?_)
  rintro e w5 ⟨m5, G5, g5, rfl, hv, -, -, -, -⟩
  have HV5 := Lib.hid hv
  clear hv HC HV4 c4
  have HC := Lib.hid (HV5.out.say rfl rfl (by simp [lv0, LaneM.new, LaneM.put]) (by simp [lv0, LaneM.new, LaneM.put]))
  go_wp2_with fail
  (with_reducible refine HC.out.mono ?_)
  rintro e w6 ⟨m6, g0, g1, rfl, hv, hm6, hg0, hg1, hne, hr0, hr1⟩
  have HV6 := Lib.hid (show LvI w w1 w3 p gp G5 _ lv3 w6 from hv)
  have HR6 := Lib.hid (And.intro hm6 (And.intro hg0 (And.intro hg1 (And.intro hne (And.intro (show RowsB _ w6 g0 54 (lv3.out 0) from hr0) (show RowsB _ w6 g1 54 (lv3.out 2) from hr1))))))
  clear hv hm6 hg0 hg1 hne hr0 hr1 HC HV5
  go_upto_region 7 with fail
  have H7 : Hid (LvI w w1 w3 p gp G5 _ lv3 ((w6.alloc (.cells #[Value.slice (some ⟨g0, 0, none⟩) 4 4] 34)).alloc (.cells #[Value.slice (some ⟨g1, 0, none⟩) 4 4] 34)) ∧ Blk ((w6.alloc (.cells #[Value.slice (some ⟨g0, 0, none⟩) 4 4] 34)).alloc (.cells #[Value.slice (some ⟨g1, 0, none⟩) 4 4] 34)) w6.heap.size 34 #[Value.slice (some ⟨g0, 0, none⟩) 4 4] ∧ Blk ((w6.alloc (.cells #[Value.slice (some ⟨g0, 0, none⟩) 4 4] 34)).alloc (.cells #[Value.slice (some ⟨g1, 0, none⟩) 4 4] 34)) (w6.heap.size + 1) 34 #[Value.slice (some ⟨g1, 0, none⟩) 4 4] ∧ Below w6.heap.size w6 ((w6.alloc (.cells #[Value.slice (some ⟨g0, 0, none⟩) 4 4] 34)).alloc (.cells #[Value.slice (some ⟨g1, 0, none⟩) 4 4] 34))) := Lib.hid (by
    have hb : Below w6.heap.size w6 ((w6.alloc (.cells #[Value.slice (some ⟨g0, 0, none⟩) 4 4] 34)).alloc (.cells #[Value.slice (some ⟨g1, 0, none⟩) 4 4] 34)) := ((Below.refl _ _).alloc (Nat.le_refl _) _).alloc (by simp) _
    have s1 : (w6.alloc (.cells #[Value.slice (some ⟨g0, 0, none⟩) 4 4] 34)).heap.size = w6.heap.size + 1 := by simp
    have k1 := Blk.new (w6.alloc (.cells #[Value.slice (some ⟨g0, 0, none⟩) 4 4] 34)) 34 #[Value.slice (some ⟨g1, 0, none⟩) 4 4]
    rw [s1] at k1
    exact ⟨HV6.out.below hb, (Blk.new _ _ _).alloc _, k1, hb⟩)
  generalize ((w6.alloc (.cells #[Value.slice (some ⟨g0, 0, none⟩) 4 4] 34)).alloc (.cells #[Value.slice (some ⟨g1, 0, none⟩) 4 4] 34)) = w7 at H7 ⊢
  have HC := Lib.hid (say_ended p rowZ w7 (by obtain ⟨-, -, -, c, -⟩ := H7.out.1.l.cells; exact c) H7.out.1.l.b.lt)
  go_wp2_with fail
  (with_reducible refine HC.out.mono ?_)
  rintro e w8 ⟨rfl, hb8⟩
  have H8 := Lib.hid hb8
  clear hb8 HC
  go_upto_region 8 with fail
  have H9 : Hid (Below w8.heap.size w8 ((w8.alloc (.cells #[Value.slice none 0 0] 34)).alloc (.cells #[Value.slice none 0 0] 34)) ∧ Blk ((w8.alloc (.cells #[Value.slice none 0 0] 34)).alloc (.cells #[Value.slice none 0 0] 34)) w8.heap.size 34 #[Value.slice none 0 0]) := Lib.hid ⟨((Below.refl _ _).alloc (Nat.le_refl _) _).alloc (by simp) _, (Blk.new _ _ _).alloc _⟩
  generalize ((w8.alloc (.cells #[Value.slice none 0 0] 34)).alloc (.cells #[Value.slice none 0 0] 34)) = w9 at H9 ⊢
  have HB69 : Hid (Below w6.heap.size w6 w9) := Lib.hid (H7.out.2.2.2.trans ((H8.out.trans (H9.out.1.mono H8.out.size)).mono H7.out.2.2.2.size))
  have HV9 : Hid (LvI w w1 w3 p gp G5 _ lv3 w9) := Lib.hid (HV6.out.below HB69.out)
  have R9 := HR6.out.2.2.2.2
  obtain ⟨tva, a1, a2, -, hxa⟩ := (R9.1.keep HB69.out.size (fun b _ hl => HB69.out.block b hl)).row (k := 0) (r := rx) (by
    rw [← lv_out0]; rfl) rx_ok
  obtain ⟨tvb, b1, b2, -, hxb⟩ := (R9.2.keep HB69.out.size (fun b _ hl => HB69.out.block b hl)).row (k := 0) (r := rw0) (by
    rw [← lv_out2]; rfl) rw0_ok
  obtain ⟨ra, hra⟩ : ∃ ra, ra = rx.vals tva := ⟨_, rfl⟩
  obtain ⟨rb, hrb⟩ : ∃ rb, rb = rx.vals (.slice (some ⟨w1.heap.size, 0, none⟩) 4 4) := ⟨_, rfl⟩
  have hgl : Hid (g0 < w9.heap.size ∧ g1 < w9.heap.size) := Lib.hid ⟨Nat.lt_of_lt_of_le R9.1.lt HB69.out.size, Nat.lt_of_lt_of_le R9.2.lt HB69.out.size⟩
  have F9 : Hid (∀ w' : World, Below w9.heap.size w9 w' → (w'.cell? ⟨w6.heap.size, 0, none⟩ = some (.slice (some ⟨g0, 0, none⟩) 4 4) ∧ hasRow w' ⟨g0, 0, none⟩ 57 = true ∧ rowOf w' ⟨g0, 0, none⟩ 57 = ra ∧ hasRow w' ⟨w1.heap.size + 1, 0, none⟩ 57 = true ∧ rowOf w' ⟨w1.heap.size + 1, 0, none⟩ 57 = rb ∧ w'.cell? ⟨w6.heap.size + 1, 0, none⟩ = some (.slice (some ⟨g1, 0, none⟩) 4 4) ∧ w'.cell? ⟨g1, 0, none⟩ = some (.bool false) ∧ w'.cell? ⟨w8.heap.size, 0, none⟩ = some (.slice none 0 0))) := Lib.hid fun w' hb => by
    have hz6 := HB69.out.size
    have k6 := ((H7.out.2.1.below (H8.out.trans (H9.out.1.mono H8.out.size)) H7.out.2.1.lt)).below hb (by have := H7.out.2.1.lt; have := H8.out.size; have := H9.out.1.size; omega)
    have k7 := ((H7.out.2.2.1.below (H8.out.trans (H9.out.1.mono H8.out.size)) H7.out.2.2.1.lt)).below hb (by have := H7.out.2.2.1.lt; have := H8.out.size; have := H9.out.1.size; omega)
    have k8 := H9.out.2.below hb H9.out.2.lt
    have c6 := k6.cell 0
    have c7 := k7.cell 0
    have c8 := k8.cell 0
    simp at c6 c7 c8
    have d1 := row_below hb (p := ⟨g0, 0 * 57, none⟩) hgl.out.1 57
    have d2 := row_below hb (p := ⟨g1, 0 * 57, none⟩) hgl.out.2 57
    obtain ⟨-, -, kr, -⟩ := H3.out.rd (HV9.out.below hb).k
    obtain ⟨r1, r2, -⟩ := kr.whole (n := 57) (Rw.len rx_ok _)
    have e0 := row_cell (b := g1) (off := 0 * 57) (d2.1.trans b1) (d2.2.trans b2) 0 (by omega)
    refine ⟨c6, d1.1.trans a1, (d1.2.trans a2).trans hra.symm, r1, r2.trans hrb.symm, c7, ?_, c8⟩
    simpa [Rw.vals, rw0] using e0
  have FS : Hid (∀ w' : World, Below w9.heap.size w9 w' → Calls Try.prog 21 #[.agg ra.toArray, .agg rb.toArray] w' fun e w'' => e = .returned (.bool true) ∧ Below w'.heap.size w' w'') := Lib.hid fun w' hb => by
    obtain ⟨-, kr, -, -⟩ := H3.out.rd (HV9.out.below hb).k
    rw [hra, hrb]
    refine (same_any _ _ rx rx rx_ok rx_ok tva (.slice (some ⟨w1.heap.size, 0, none⟩) 4 4) w' (hxa.1.below hb) kr).mono ?_
    rintro e w'' ⟨rfl, h⟩
    exact ⟨by simp, h⟩
  have hral : ra.length = 57 := by rw [hra]; exact Rw.len rx_ok _
  have hrbl : rb.length = 57 := by rw [hrb]; exact Rw.len rx_ok _
  have hrac : ra.all cell1 = true := by rw [hra]; exact hxa.1.cell1 rx_ok
  clear a1 a2 b1 b2 hxa hxb R9 hra hrb
  go_region_held3 (fun w' => (w'.cell? ⟨w6.heap.size, 0, none⟩ = some (.slice (some ⟨g0, 0, none⟩) 4 4) ∧ hasRow w' ⟨g0, 0, none⟩ 57 = true ∧ rowOf w' ⟨g0, 0, none⟩ 57 = ra ∧ hasRow w' ⟨w1.heap.size + 1, 0, none⟩ 57 = true ∧ rowOf w' ⟨w1.heap.size + 1, 0, none⟩ 57 = rb ∧ w'.cell? ⟨w6.heap.size + 1, 0, none⟩ = some (.slice (some ⟨g1, 0, none⟩) 4 4) ∧ w'.cell? ⟨g1, 0, none⟩ = some (.bool false) ∧ w'.cell? ⟨w8.heap.size, 0, none⟩ = some (.slice none 0 0)))
    (first | exact F9.out _ (Below.refl _ _).drew | exact F9.out _ ((Below.refl _ _).drew.trans H10.out))
    ((first | ((with_reducible refine (FS.out _ (Below.refl _ _).drew).mono ?_); rintro e w10 ⟨rfl, hb10⟩; have H10 := Lib.hid hb10; clear hb10)))
  have HV10 := Lib.hid (HV9.out.below ((Below.refl _ _).drew.trans H10.out))
  clear F9 FS HV9 HB69 H9 H8 H7 HV6 HR6
  have HC := Lib.hid (HV10.out.hearNo rfl (by simp [lv3, lv2, lv1, lv0, LaneM.new, LaneM.put, LaneM.said]))
  go_wp2_with fail
  (with_reducible refine HC.out.mono ?_)
  rintro e w11 ⟨m11, G11, g11, rfl, hv, -, -, -, -⟩
  have HV11 := Lib.hid (show LvI w w1 w3 p gp G11 _ lv4 w11 from hv)
  clear hv HC HV10
  obtain ⟨-, -, -, c4⟩ := H3.out.rd HV11.out.k
  have HC := Lib.hid (HV11.out.hear3 H3.out rfl (by simp [lv4, lv3, lv2, lv1, lv0, LaneM.new, LaneM.put, LaneM.said]))
  go_wp2_with fail
  (with_reducible refine HC.out.mono ?_)
  rintro e w12 ⟨m12, G12, g12, rfl, hv, -, -, -, -⟩
  have HV12 := Lib.hid (show LvI w w1 w3 p gp G12 _ lv5 w12 from hv)
  clear hv HC HV11 c4
  have HC := Lib.hid (HV12.out.hearNo rfl (by simp [lv5, lv4, lv3, lv2, lv1, lv0, LaneM.new, LaneM.put, LaneM.said]))
  go_wp2_with fail
  (with_reducible refine HC.out.mono ?_)
  rintro e w13 ⟨m13, G13, gh, rfl, hv, hm13, hgh, hrh, -⟩
  have HV13 := Lib.hid (show LvI w w1 w3 p gp G13 _ lv6 w13 from hv)
  have HH13 := Lib.hid (And.intro hm13 (And.intro hgh (show RowsB _ w13 gh 54 (tab 4 lv6.held) from hrh)))
  clear hv hm13 hgh hrh HC
  have HC := Lib.hid (HV13.out.hearNo rfl (by simp [lv6, lv5, lv4, lv3, lv2, lv1, lv0, LaneM.new, LaneM.put, LaneM.said]))
  go_wp2_with fail
  (with_reducible refine HC.out.mono ?_)
  rintro e w14 ⟨m14, G14, gl, rfl, hv, hm14, hgl, hrl, hc14⟩
  have HV14 := Lib.hid (show LvI w w1 w3 p gp G14 _ lv7 w14 from hv)
  have HH14 := Lib.hid (And.intro (show RowsB _ w14 gl 54 (tab 4 lv7.held) from hrl) hc14)
  clear hv hm14 hgl hrl hc14 HC
  have HRH : Hid (RowsB (fun b => m13 ≤ b ∧ b ≠ gh) w14 gh 54 (tab 4 lv6.held)) := Lib.hid (by
    have h1 := HV12.out.l.lt _ HV12.out.l.sp
    have h2 := HV12.out.l.lt _ HV12.out.l.sg
    obtain ⟨q1, q2, q3⟩ := HH13.out
    exact q3.chg HH14.out.2 (by omega) (fun b _ hb => by omega))
  obtain ⟨tvh, a1, a2, -, hxh⟩ := HRH.out.row (k := 0) (r := rx) (by rw [← lv_held0]; rfl) rx_ok
  obtain ⟨tv2, b1, b2, -, -⟩ := HRH.out.row (k := 2) (r := rw0) (by rw [← lv_held2]; rfl) rw0_ok
  obtain ⟨tvl, d1, d2, -, -⟩ := HH14.out.1.row (k := 0) (r := rw0) (by rw [← lv_late0]; rfl) rw0_ok
  obtain ⟨rh, hrh⟩ : ∃ rh, rh = rx.vals tvh := ⟨_, rfl⟩
  obtain ⟨rb, hrb⟩ : ∃ rb, rb = rx.vals (.slice (some ⟨w1.heap.size, 0, none⟩) 4 4) := ⟨_, rfl⟩
  have hgl : Hid (gh < w14.heap.size ∧ gl < w14.heap.size) := Lib.hid ⟨HRH.out.lt, HH14.out.1.lt⟩
  have F14 : Hid (∀ w' : World, Below w14.heap.size w14 w' → (hasRow w' ⟨gh, 0, none⟩ 57 = true ∧ rowOf w' ⟨gh, 0, none⟩ 57 = rh ∧ hasRow w' ⟨w1.heap.size + 1, 0, none⟩ 57 = true ∧ rowOf w' ⟨w1.heap.size + 1, 0, none⟩ 57 = rb ∧ w'.cell? ⟨gh, 114, none⟩ = some (.bool false) ∧ w'.cell? ⟨gl, 0, none⟩ = some (.bool false))) := Lib.hid fun w' hb => by
    have x1 := row_below hb (p := ⟨gh, 0 * 57, none⟩) hgl.out.1 57
    have x2 := row_below hb (p := ⟨gh, 2 * 57, none⟩) hgl.out.1 57
    have x3 := row_below hb (p := ⟨gl, 0 * 57, none⟩) hgl.out.2 57
    obtain ⟨-, -, kr, -⟩ := H3.out.rd (HV14.out.below hb).k
    obtain ⟨r1, r2, -⟩ := kr.whole (n := 57) (Rw.len rx_ok _)
    have e2 := row_cell (b := gh) (off := 2 * 57) (x2.1.trans b1) (x2.2.trans b2) 0 (by omega)
    have e3 := row_cell (b := gl) (off := 0 * 57) (x3.1.trans d1) (x3.2.trans d2) 0 (by omega)
    exact ⟨x1.1.trans a1, (x1.2.trans a2).trans hrh.symm, r1, r2.trans hrb.symm, by simpa [Rw.vals, rw0] using e2, by simpa [Rw.vals, rw0] using e3⟩
  have FS : Hid (∀ w' : World, Below w14.heap.size w14 w' → Calls Try.prog 21 #[.agg rh.toArray, .agg rb.toArray] w' fun e w'' => e = .returned (.bool true) ∧ Below w'.heap.size w' w'') := Lib.hid fun w' hb => by
    obtain ⟨-, kr, -, -⟩ := H3.out.rd (HV14.out.below hb).k
    rw [hrh, hrb]
    refine (same_any _ _ rx rx rx_ok rx_ok tvh (.slice (some ⟨w1.heap.size, 0, none⟩) 4 4) w' (hxh.1.below hb) kr).mono ?_
    rintro e w'' ⟨rfl, h⟩
    exact ⟨by simp, h⟩
  have HEND : Hid (Below w.heap.size w w14 ∧ w.heap.size ≤ w14.heap.size) := Lib.hid ⟨HV14.out.bel, HV14.out.bel.size⟩
  clear a1 a2 b1 b2 d1 d2 hxh hrh hrb HRH HH13 HH14 HV12 HV13
  go_upto_region 14 with fail
  go_region_held3 (fun w' => (hasRow w' ⟨gh, 0, none⟩ 57 = true ∧ rowOf w' ⟨gh, 0, none⟩ 57 = rh ∧ hasRow w' ⟨w1.heap.size + 1, 0, none⟩ 57 = true ∧ rowOf w' ⟨w1.heap.size + 1, 0, none⟩ 57 = rb ∧ w'.cell? ⟨gh, 114, none⟩ = some (.bool false) ∧ w'.cell? ⟨gl, 0, none⟩ = some (.bool false)))
    (first | exact F14.out _ (Below.refl _ _).drew | exact F14.out _ ((Below.refl _ _).drew.trans H15.out))
    ((first | ((with_reducible refine (FS.out _ (Below.refl _ _).drew).mono ?_); rintro e w15 ⟨rfl, hb15⟩; have H15 := Lib.hid hb15; clear hb15)))
  go_wp2_with fail
  go_ret
  exact ⟨rfl, HEND.out.1.trans (((Below.refl _ _).drew.trans H15.out).mono HEND.out.2)⟩
end Go.Proofs.Ytopakilglnpinaa
