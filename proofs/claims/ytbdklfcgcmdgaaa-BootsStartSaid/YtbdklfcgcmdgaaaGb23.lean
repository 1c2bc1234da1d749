/-
  tracks.New; a lane that is not there. Where a ring lies; what was sent.
-/
import Derived.Test.YtbdklfcgcmdgaaaGb22
import Derived.Test.YtbdklfcgcmdgaaaGb04
namespace Go.Proofs.Ytbdklfcgcmdgaaa
open Go.RowKit
set_option linter.unusedVariables false
set_option linter.unusedSimpArgs false

theorem mk_mom : MakeOk Try.prog 81 149 [Value.slice none 0 0, .slice none 0 0, .slice none 0 0, .slice none 0 0] := ⟨Try.underlying81, by kernel_rfl, by decide⟩
@[go_sem ↓] theorem ms_mom (ρ : Operand → Value) (d : Option Tmp) (x y : Operand) (ty : TypeId) (s : String) (af : Array Edge) (g : Option (Nat × Bool)) (w : World) (h : madeOk (ρ x) (ρ y) = true) :
    (execOp ρ { dst := d, op := .makeSlice 81 x y, type := ty, pos := s, after := af, guard := g }).run Try.prog w =
      .ok (.value (.slice (some ⟨w.heap.size, 0, none⟩) (lenV (ρ x)) (lenV (ρ x)))) (w.alloc (.cells (zrep [Value.slice none 0 0, .slice none 0 0, .slice none 0 0, .slice none 0 0] (lenV (ρ x))).toArray 149)) := exec_make mk_mom ρ d x y ty s af g w h
theorem zrep_mom (n : Nat) (G : Nat → Nat) : zrep [Value.slice none 0 0, .slice none 0 0, .slice none 0 0, .slice none 0 0] (n + 1) = momCells n 0 G := by
  apply List.ext_getElem?
  intro k
  have hl : (zrep [Value.slice none 0 0, .slice none 0 0, .slice none 0 0, .slice none 0 0] (n + 1)).length = (n + 1) * 4 := len_zrep _ _
  by_cases hk : k < 4 * (n + 1)
  · rw [momCells_at hk, if_neg (by omega), zrep_at (by simp) (n + 1) k (by simp <;> omega)]
    have hc : k % 4 = 0 ∨ k % 4 = 1 ∨ k % 4 = 2 ∨ k % 4 = 3 := by omega
    rcases hc with hc | hc | hc | hc <;> simp [hc]
  · rw [List.getElem?_eq_none (by omega), List.getElem?_eq_none (by rw [momCells_len]; omega)]

def NewLane (n me : Nat) (w : World) (e : Ending) (w' : World) : Prop :=
  ∃ p gp, e = .returned (.tuple #[.pointer (some ⟨p, 0, none⟩), .int .i64 0]) ∧ LaneAt (fun b => w.heap.size ≤ b ∧ b < w'.heap.size) w' p gp (fun _ => 0) (LaneM.new n me) ∧ Below w.heap.size w w'
set_option maxRecDepth 100000 in
set_option maxHeartbeats 1000000 in
theorem new_ok (n me : Nat) (h4 : 4 ≤ n) (h16 : n ≤ 16) (hm : me < n) (w : World) : Calls Try.prog 14 #[.int .i64 n, .int .i64 me] w (NewLane n me w) := by
  have b1 : decide ((n : Int) < 4) = false := by simp; omega
  have b2 : decide (16 < (n : Int)) = false := by simp; omega
  have b3 : decide ((me : Int) < 0) = false := by simp
  have b4 : decide (n ≤ me) = false := by simp; omega
  have hmade : madeOk (.int .i64 ((n : Int) + 1)) (.int .i64 ((n : Int) + 1)) = true := by simp [madeOk]; omega
  have hlen : lenV (.int .i64 ((n : Int) + 1)) = n + 1 := by simp [lenV]
  go_enter Try.func14, Try.ntmps14
  go_wp2_with fail
  go_ret2
  rw [zrep_mom n (fun _ => 0)]
  have hB : Below w.heap.size w ((w.alloc (.cells (momCells n 0 (fun _ => 0)).toArray 149)).alloc (.cells (laneV (LaneM.new n me) w.heap.size).toArray 83)) := ((Below.refl _ _).alloc (Nat.le_refl _) _).alloc (by simp) _
  have s1 : (w.alloc (.cells (momCells n 0 (fun _ => 0)).toArray 149)).heap.size = w.heap.size + 1 := by simp
  have k0 := (Blk.new w 149 (momCells n 0 (fun _ => 0)).toArray).alloc (.cells (laneV (LaneM.new n me) w.heap.size).toArray 83)
  have k1 := Blk.new (w.alloc (.cells (momCells n 0 (fun _ => 0)).toArray 149)) 83 (laneV (LaneM.new n me) w.heap.size).toArray
  rw [s1] at k1
  refine ⟨w.heap.size + 1, w.heap.size, rfl, ⟨k1, k0, fun k hk => absurd hk.2 (by simp [LaneM.new]), ?_, ?_, fun k hk => absurd hk.2 (by simp [LaneM.new]), fun k k' hk _ _ => absurd hk.2 (by simp [LaneM.new]), fun b hb => hb.2, ⟨h4, h16, hm⟩, LaneM.new_ok n me, LaneM.new_okT n me⟩, hB⟩
  · exact ⟨by omega, k1.lt⟩
  · exact ⟨Nat.le_refl _, k0.lt⟩
theorem new_bad (n me : Int) (h : n < 4 ∨ 16 < n ∨ me < 0 ∨ n ≤ me) (w : World) : Calls Try.prog 14 #[.int .i64 n, .int .i64 me] w fun e w' => e = .returned (.tuple #[.pointer none, .int .i64 1]) ∧ w = w' := by
  have key : ∀ (c1 c2 c3 c4 : Bool), decide (n < 4) = c1 → decide (16 < n) = c2 → decide (me < 0) = c3 → decide (n ≤ me) = c4 → (c1 || c2 || c3 || c4) = true → Calls Try.prog 14 #[.int .i64 n, .int .i64 me] w fun e w' => e = .returned (.tuple #[.pointer none, .int .i64 1]) ∧ w = w' := by
    intro c1 c2 c3 c4 e1 e2 e3 e4 hc
    go_enter Try.func14, Try.ntmps14
    cases c1 <;> cases c2 <;> cases c3 <;> cases c4 <;> first | (exact absurd hc (by decide)) | (go_wp2; go_ret2; exact ⟨rfl, rfl⟩)
  exact key _ _ _ _ rfl rfl rfl rfl (by simp; omega)

set_option maxRecDepth 100000 in
set_option maxHeartbeats 1000000 in
theorem hear_nil (i0 i1 i2 i3 : Value) (w : World) : Calls Try.prog 18 #[.pointer none, .agg #[i0, i1, i2, i3]] w fun e w' => e = .returned (.slice none 0 0) ∧ Below w.heap.size w w' := by
  go_enter Try.func18, Try.ntmps18
  go_wp2
  go_ret
  exact ⟨rfl, ((Below.refl _ _).alloc (Nat.le_refl _) _).alloc (by simp) _⟩
set_option maxRecDepth 100000 in
set_option maxHeartbeats 1000000 in
theorem hear_zero (p : Nat) (i0 i1 i2 i3 : Value) (w : World) (h : w.cell? ⟨p, 0, none⟩ = some (.int .i64 0)) (hp : p < w.heap.size) : Calls Try.prog 18 #[.pointer (some ⟨p, 0, none⟩), .agg #[i0, i1, i2, i3]] w fun e w' => e = .returned (.slice none 0 0) ∧ Below w.heap.size w w' := by
  have hB : Below w.heap.size w ((w.alloc (.cells #[Value.pointer (some ⟨p, 0, none⟩)] 25)).alloc (.cells #[i0, i1, i2, i3] 36)) := ((Below.refl _ _).alloc (Nat.le_refl _) _).alloc (by simp) _
  have h2 := (hB.cell (p := ⟨p, 0, none⟩) hp).trans h
  go_enter Try.func18, Try.ntmps18
  go_wp2
  go_ret
  exact ⟨rfl, hB⟩
def SayNone (w : World) (e : Ending) (w' : World) : Prop := e = .returned (.tuple #[.agg #[.slice none 0 0], .agg #[.slice none 0 0]]) ∧ Below w.heap.size w w'
set_option maxRecDepth 100000 in
set_option maxHeartbeats 1000000 in
theorem say_nil (ov : List Value) (w : World) : Calls Try.prog 22 #[.pointer none, .agg ov.toArray] w (SayNone w) := by
  have H0 := Lib.hid (say0_of w ov)
  go_enter Try.func22, Try.ntmps22
  go_upto_region 2 with fail
  generalize (((w.alloc (.cells ov.toArray 54)).alloc (.cells #[.slice none 0 0] 34)).alloc (.cells #[.slice none 0 0] 34)) = w3 at H0 ⊢
  have k1 := H0.out.1.b1.cell 0
  have k2 := H0.out.1.b2.cell 0
  have z1 := H0.out.1.b1.frozen 0
  have z2 := H0.out.1.b2.frozen 0
  simp at k1 k2
  have HFIN : Hid (Blk ((w3.setCell ⟨w.heap.size + 1, 0, none⟩ (.slice none 0 0)).setCell ⟨w.heap.size + 1 + 1, 0, none⟩ (.slice none 0 0)) (w.heap.size + 1) 34 #[.slice none 0 0] ∧ Blk ((w3.setCell ⟨w.heap.size + 1, 0, none⟩ (.slice none 0 0)).setCell ⟨w.heap.size + 1 + 1, 0, none⟩ (.slice none 0 0)) (w.heap.size + 1 + 1) 34 #[.slice none 0 0] ∧ Below w.heap.size w ((w3.setCell ⟨w.heap.size + 1, 0, none⟩ (.slice none 0 0)).setCell ⟨w.heap.size + 1 + 1, 0, none⟩ (.slice none 0 0))) :=
    Lib.hid ⟨(H0.out.1.b1.set_ 0 _).far (by simp) _, (H0.out.1.b2.far (by simp) _).set_ 0 _, (H0.out.2.setCell (by simp <;> omega) _).setCell (by simp <;> omega) _⟩
  go_region_law (first | fail)
  all_goals go_wp2_with fail
  all_goals (try simp only [Exit.inBlock, Exit.then])
  all_goals (
    have r1 := HFIN.out.1.drew.cell 0
    have r2 := HFIN.out.2.1.drew.cell 0
    simp only [List.getElem?_toArray, List.getElem?_cons_zero] at r1 r2
    first | refine bodyPost_ret (ret_row2 (n := 1) (n' := 1) rfl (by kernel_rfl) (by kernel_rfl) _ _ _ _ rfl rfl ?_ ?_) rfl ?_ | refine bodyPost_end (ret_row2 (n := 1) (n' := 1) rfl (by kernel_rfl) (by kernel_rfl) _ _ _ _ rfl rfl ?_ ?_) rfl ?_
    · exact (row1 r1).1
    · exact (row1 r2).1
    · rw [(row1 r1).2, (row1 r2).2]; exact ⟨rfl, HFIN.out.2.2.drew⟩)
set_option maxRecDepth 100000 in
set_option maxHeartbeats 1000000 in
theorem say_ended (p : Nat) (ov : List Value) (w : World) (h : w.cell? ⟨p, 3, none⟩ = some (.bool false)) (hp : p < w.heap.size) : Calls Try.prog 22 #[.pointer (some ⟨p, 0, none⟩), .agg ov.toArray] w (SayNone w) := by
  have H0 := Lib.hid (say0_of w ov)
  have h2 := (H0.out.2.cell (p := ⟨p, 3, none⟩) hp).trans h
  clear h
  go_enter Try.func22, Try.ntmps22
  go_upto_region 1 with fail
  generalize (((w.alloc (.cells ov.toArray 54)).alloc (.cells #[.slice none 0 0] 34)).alloc (.cells #[.slice none 0 0] 34)) = w3 at H0 h2 ⊢
  go_upto_region 2 with fail
  have k1 := H0.out.1.b1.cell 0
  have k2 := H0.out.1.b2.cell 0
  have z1 := H0.out.1.b1.frozen 0
  have z2 := H0.out.1.b2.frozen 0
  simp at k1 k2
  have HFIN : Hid (Blk ((w3.setCell ⟨w.heap.size + 1, 0, none⟩ (.slice none 0 0)).setCell ⟨w.heap.size + 1 + 1, 0, none⟩ (.slice none 0 0)) (w.heap.size + 1) 34 #[.slice none 0 0] ∧ Blk ((w3.setCell ⟨w.heap.size + 1, 0, none⟩ (.slice none 0 0)).setCell ⟨w.heap.size + 1 + 1, 0, none⟩ (.slice none 0 0)) (w.heap.size + 1 + 1) 34 #[.slice none 0 0] ∧ Below w.heap.size w ((w3.setCell ⟨w.heap.size + 1, 0, none⟩ (.slice none 0 0)).setCell ⟨w.heap.size + 1 + 1, 0, none⟩ (.slice none 0 0))) :=
    Lib.hid ⟨(H0.out.1.b1.set_ 0 _).far (by simp) _, (H0.out.1.b2.far (by simp) _).set_ 0 _, (H0.out.2.setCell (by simp <;> omega) _).setCell (by simp <;> omega) _⟩
  go_region_law (first | fail)
  all_goals go_wp2_with fail
  all_goals (try simp only [Exit.inBlock, Exit.then])
  all_goals (
    have r1 := HFIN.out.1.drew.cell 0
    have r2 := HFIN.out.2.1.drew.cell 0
    simp only [List.getElem?_toArray, List.getElem?_cons_zero] at r1 r2
    first | refine bodyPost_ret (ret_row2 (n := 1) (n' := 1) rfl (by kernel_rfl) (by kernel_rfl) _ _ _ _ rfl rfl ?_ ?_) rfl ?_ | refine bodyPost_end (ret_row2 (n := 1) (n' := 1) rfl (by kernel_rfl) (by kernel_rfl) _ _ _ _ rfl rfl ?_ ?_) rfl ?_
    · exact (row1 r1).1
    · exact (row1 r2).1
    · rw [(row1 r1).2, (row1 r2).2]; exact ⟨rfl, HFIN.out.2.2.drew⟩)
end Go.Proofs.Ytbdklfcgcmdgaaa
namespace Go.Proofs.Ytbdklfcgcmdgaaa
open Go.RowKit
set_option linter.unusedVariables false
set_option linter.unusedSimpArgs false

/-- a word's rows, in blocks of S -/
def WdAt (S : Nat → Prop) (w : World) (v : Value) (l : List Rw) : Prop := ∃ a n c, v = .slice a n c ∧ RdRs S w a n l ∧ n ≤ c ∧ c ≤ maxLen
theorem WdAt.keep {S : Nat → Prop} {w w' : World} {v : Value} {l : List Rw} (h : WdAt S w v l) (hs : w.heap.size ≤ w'.heap.size) (hk : ∀ b, S b → b < w.heap.size → w'.heap[b]? = w.heap[b]?) : WdAt S w' v l := by
  obtain ⟨a, n, c, h1, h2, h3⟩ := h
  exact ⟨a, n, c, h1, h2.keep hs hk, h3⟩
theorem WdAt.mono {S S' : Nat → Prop} {w : World} {v : Value} {l : List Rw} (h : WdAt S w v l) (hs : ∀ b, b < w.heap.size → S b → S' b) : WdAt S' w v l := by
  obtain ⟨a, n, c, h1, h2, h3⟩ := h
  exact ⟨a, n, c, h1, h2.mono hs, h3⟩
theorem wdAt_nil (S : Nat → Prop) (w : World) : WdAt S w (.slice none 0 0) [] := ⟨none, 0, 0, rfl, rdRs_nil _ _, Nat.le_refl _, by simp⟩
/-- a tick's words, by node and link -/
def TickAt (S : Nat → Prop) (w : World) (v : Value) (N : Nat) (W : WordsM) : Prop :=
  ∃ g c, v = .slice (some ⟨g, 0, none⟩) N c ∧ S g ∧ g < w.heap.size ∧ N ≤ c ∧ c ≤ maxLen ∧ ∀ i k, i < N → k < 4 → ∃ u, w.cell? ⟨g, i * 4 + k, none⟩ = some u ∧ WdAt S w u (W i k)
theorem TickAt.keep {S : Nat → Prop} {w w' : World} {v : Value} {N : Nat} {W : WordsM} (h : TickAt S w v N W) (hs : w.heap.size ≤ w'.heap.size) (hk : ∀ b, S b → b < w.heap.size → w'.heap[b]? = w.heap[b]?) : TickAt S w' v N W := by
  obtain ⟨g, c, h1, h2, h3, h4, h5, h6⟩ := h
  refine ⟨g, c, h1, h2, by omega, h4, h5, fun i k hi hk' => ?_⟩
  obtain ⟨u, e1, e2⟩ := h6 i k hi hk'
  exact ⟨u, (World.cell?_of_block (hk g h2 h3)).trans e1, e2.keep hs hk⟩
/-- what was sent, tick by tick: the slice itself lies in a block of its own -/
structure SentAt (S : Nat → Prop) (w : World) (v : Value) (N : Nat) (L : List WordsM) : Prop where
  xs : ∃ xs : List Value, xs.length = L.length ∧ w.ownsRow 0 102 1 v xs.length xs ∧ ∀ (t : Nat) (x : Value) (W : WordsM), xs[t]? = some x → L[t]? = some W → TickAt S w x N W
theorem SentAt.keep {S : Nat → Prop} {w w' : World} {v : Value} {N : Nat} {L : List WordsM} (h : SentAt S w v N L) (hs : w.heap.size ≤ w'.heap.size) (hk : ∀ b, S b → b < w.heap.size → w'.heap[b]? = w.heap[b]?) (ho : ∀ g, v.ownBlock = some g → w'.heap[g]? = w.heap[g]?) : SentAt S w' v N L := by
  obtain ⟨xs, h1, h2, h3⟩ := h.xs
  exact ⟨xs, h1, own_block h2 ho, fun t x W hx hW => (h3 t x W hx hW).keep hs hk⟩
/-- one tick of it, read -/
theorem SentAt.at_ {S : Nat → Prop} {w : World} {v : Value} {N : Nat} {L : List WordsM} (h : SentAt S w v N L) : ∃ a cap, v = .slice a L.length cap ∧ L.length ≤ cap ∧ cap ≤ maxLen ∧ ∀ (t : Nat) (W : WordsM), L[t]? = some W → ∃ g x, a = some ⟨g, 0, none⟩ ∧ w.cell? ⟨g, t, none⟩ = some x ∧ TickAt S w x N W ∧ g < w.heap.size := by
  obtain ⟨xs, h1, h2, h3⟩ := h.xs
  rcases h2.2 with ⟨rfl, h0⟩ | ⟨g, cap, cur, rfl, hb, hg, hnc, hcm, hcs, htake⟩
  · rw [h1] at h0
    exact ⟨none, 0, by rw [h0], by omega, by simp, fun t W hW => by rw [List.eq_nil_of_length_eq_zero h0] at hW; simp at hW⟩
  · refine ⟨_, cap, by rw [h1], by omega, hcm, fun t W hW => ?_⟩
    have hlt : t < L.length := (List.getElem?_eq_some_iff.1 hW).1
    have hx : xs[t]? = some (xs[t]'(by omega)) := List.getElem?_eq_getElem _
    refine ⟨g, _, rfl, ?_, h3 t _ W hx hW, ?_⟩
    · rw [cell_of_row w g _ cur _ (0, 0) hg]
      have e1 : cur[t]? = (cur.toList.take (xs.length * 1))[t]? := by rw [List.getElem?_take, if_pos (by omega)]; simp
      rw [e1, htake, hx]
    · exact lt_of_some hg

def SentPost (S : Nat → Prop) (l : List Rw) (w : World) (e : Ending) (w' : World) : Prop := ∃ u, e = .returned (.agg #[u]) ∧ WdAt S w' u l ∧ Below w.heap.size w w'
set_option maxRecDepth 100000 in
set_option maxHeartbeats 2000000 in
theorem sent_any (S : Nat → Prop) (rg : Nat) (R : RingM) (sv : Value) (i : Int) (z link ago : Nat) (w : World) (hN : w.cell? ⟨rg, 0, none⟩ = some (.int .i64 R.N)) (hsv : w.cell? ⟨rg, 7, none⟩ = some sv) (hrg : rg < w.heap.size) (h4 : 4 ≤ R.N) (h16 : R.N ≤ 16)
    (hz : i + 2 * R.N = (z : Int)) (hz2 : z ≤ 1000) (hlk : link < 4) (hago : 1 ≤ ago) (hago2 : ago ≤ 1000) (hS : SentAt S w sv R.N R.sent) (hlen : R.sent.length ≤ 1000000) (hSl : ∀ b, S b → b < w.heap.size) :
    Calls Try.prog 89 #[.pointer (some ⟨rg, 0, none⟩), .int .i64 i, .int .i64 link, .int .i64 ago] w (SentPost S (R.sentM z link ago) w) := by
  obtain ⟨sa, cap, rfl, hc1, hc2, hat⟩ := hS.at_
  have HS := Lib.hid hat
  obtain ⟨n, hn⟩ : ∃ n, n = R.sent.length := ⟨_, rfl⟩
  rw [← hn] at hsv hc1 hlen
  have HN := Lib.hid hn
  obtain ⟨N, hNN⟩ : ∃ N, N = R.N := ⟨_, rfl⟩
  rw [← hNN] at hN h4 h16 hz
  have HNN := Lib.hid hNN
  have HB := Lib.hid ((Below.refl w.heap.size w).alloc (Nat.le_refl _) (.cells #[Value.slice none 0 0] 34))
  have HSL := Lib.hid hSl
  have d0 := (HB.out.cell (p := ⟨rg, 0, none⟩) hrg).trans hN
  have d7 := (HB.out.cell (p := ⟨rg, 7, none⟩) hrg).trans hsv
  have k0 := Blk.new w 34 #[Value.slice none 0 0]
  unfold maxLen at hc2
  clear hS hat hn hNN hN hsv hSl
  by_cases hneg : n < ago
  · have hneg' : (n : Int) - ago < 0 := by omega
    have wr1 : IntKind.i64.wrap ((n : Int) - ago) = (n : Int) - ago := IntWalk.i64_in _ (by omega)
    have HE : Hid (R.sentM z link ago = []) := Lib.hid (by unfold RingM.sentM; rw [if_pos (by rw [← HN.out]; exact hneg)])
    have z0 := k0.frozen 0
    go_enter Try.func89, Try.ntmps89
    go_wp2_with fail
    try simp only [Exit.inBlock, Exit.then]
    first | refine bodyPost_ret (ret_row (n := 1) rfl (by kernel_rfl) _ _ _ rfl ?_) rfl ?_ | refine bodyPost_end (ret_row (n := 1) rfl (by kernel_rfl) _ _ _ rfl ?_) rfl ?_
    · exact (row1 (v := .slice none 0 0) (k0.cell 0)).1
    · rw [(row1 (v := .slice none 0 0) (k0.cell 0)).2, HE.out]
      exact ⟨_, rfl, wdAt_nil _ _, HB.out⟩
  · obtain ⟨t, ht⟩ : ∃ t : Nat, (n : Int) - ago = (t : Int) := ⟨n - ago, by omega⟩
    have htn : t < n := by omega
    obtain ⟨m, hm⟩ : ∃ m, m = z % N := ⟨_, rfl⟩
    have hmN : m < N := by rw [hm]; exact Nat.mod_lt _ (by omega)
    obtain ⟨W, hWW⟩ : ∃ W, R.sent[t]? = some W := ⟨_, List.getElem?_eq_getElem (by rw [← HN.out]; exact htn)⟩
    obtain ⟨g, x, rfl, hx, ⟨gt, c, rfl, hSg, hgt, hNc, hcm, hcell⟩, hgl⟩ := HS.out t W hWW
    rw [← HNN.out] at hx hNc hcell
    obtain ⟨u, hu, hwd⟩ := hcell m link hmN hlk
    obtain ⟨ua, un, uc, rfl, hur, huc⟩ := hwd
    have HE : Hid (R.sentM z link ago = W m link) := Lib.hid (by
      unfold RingM.sentM
      rw [← HN.out, if_neg (by omega), List.getD_eq_getElem?_getD, show n - ago = t from by omega, hWW, ← HNN.out, ← hm]
      rfl)
    have HU : Hid (WdAt S w (.slice ua un uc) (W m link)) := Lib.hid ⟨ua, un, uc, rfl, hur, huc⟩
    have hc12 : un ≤ uc := huc.1
    have wr1 : IntKind.i64.wrap ((n : Int) - ago) = (n : Int) - ago := IntWalk.i64_in _ (by omega)
    have wr2 : IntKind.i64.wrap (2 * (N : Int)) = 2 * (N : Int) := IntWalk.i64_in _ (by omega)
    have wr3 : IntKind.i64.wrap (z : Int) = (z : Int) := IntWalk.i64_in _ (by omega)
    have e1 : (z : Int).tmod N = (m : Int) := by rw [hm, Int.tmod_eq_emod_of_nonneg (by omega)]; norm_cast
    have e2 : (z : Int) % N = (m : Int) := by rw [hm]; norm_cast
    have e8 : z % N = m := hm.symm
    have e3 : ¬ ((N : Int) = 0) := by omega
    have e3' : ¬ N = 0 := by omega
    have e4 : (m : Int) < N := by omega
    have e5 : (0 : Int) ≤ m := by omega
    have e6 : (link : Int) < 4 := by omega
    have e7 : (0 : Int) ≤ link := by omega
    have t1 : (t : Int) < n := by omega
    have t2 : (0 : Int) ≤ t := by omega
    have htneg : ¬ (t : Int) < 0 := by omega
    have F : Hid (∀ w' : World, Below w.heap.size w w' → w'.cell? ⟨rg, 0, none⟩ = some (.int .i64 N) ∧ w'.cell? ⟨rg, 7, none⟩ = some (.slice (some ⟨g, 0, none⟩) n cap) ∧ w'.cell? ⟨g, t, none⟩ = some (.slice (some ⟨gt, 0, none⟩) N c) ∧ w'.cell? ⟨gt, m * 4 + link, none⟩ = some (.slice ua un uc)) := Lib.hid fun w' hb => by
      have q0 := Blk.new w 34 #[Value.slice none 0 0]
      refine ⟨?_, ?_, (hb.cell (p := ⟨g, t, none⟩) hgl).trans hx, (hb.cell (p := ⟨gt, m * 4 + link, none⟩) hgt).trans hu⟩
      · have := HB.out.cell (p := ⟨rg, 0, none⟩) hrg
        rw [this] at d0
        exact (hb.cell (p := ⟨rg, 0, none⟩) hrg).trans d0
      · have := HB.out.cell (p := ⟨rg, 7, none⟩) hrg
        rw [this] at d7
        exact (hb.cell (p := ⟨rg, 7, none⟩) hrg).trans d7
    clear hm hWW hx hcell hu hur huc HS
    go_enter Try.func89, Try.ntmps89
    go_upto_region 4 with fail
    have HB2 := Lib.hid ((Below.refl w.heap.size w).alloc (Nat.le_refl _) (.cells #[Value.slice ua un uc] 34))
    unfold maxLen at hcm
    go_region_held3 (fun w' => (w'.cell? ⟨rg, 0, none⟩ = some (.int .i64 N) ∧ w'.cell? ⟨rg, 7, none⟩ = some (.slice (some ⟨g, 0, none⟩) n cap) ∧ w'.cell? ⟨g, t, none⟩ = some (.slice (some ⟨gt, 0, none⟩) N c) ∧ w'.cell? ⟨gt, m * 4 + link, none⟩ = some (.slice ua un uc)))
      (with_reducible (first | exact F.out _ HB.out.drew | exact F.out _ HB2.out.drew | exact F.out _ HB2.out))
      (fail)
    go_wp2_with fail
    try simp only [Exit.inBlock, Exit.then]
    have q0 := (Blk.new w 34 #[Value.slice ua un uc]).drew
    first | refine bodyPost_ret (ret_row (n := 1) rfl (by kernel_rfl) _ _ _ rfl ?_) rfl ?_ | refine bodyPost_end (ret_row (n := 1) rfl (by kernel_rfl) _ _ _ rfl ?_) rfl ?_
    · exact (row1 (v := .slice ua un uc) (q0.cell 0)).1
    · rw [(row1 (v := .slice ua un uc) (q0.cell 0)).2, HE.out]
      exact ⟨_, rfl, HU.out.keep HB2.out.size (fun b hb hl => HB2.out.block b hl), HB2.out.drew⟩
end Go.Proofs.Ytbdklfcgcmdgaaa
