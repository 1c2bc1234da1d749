/-
  (*tracks.Lane).Hear.
-/
import Derived.Test.YtnckfjmaochnkaaGreatDoorGd15
import Derived.Test.YtnckfjmaochnkaaGreatDoorGd16
namespace Go.Proofs.YtnckfjmaochnkaaGreatDoor
open Go.RowKit
set_option linter.unusedVariables false
set_option linter.unusedSimpArgs false

/-! ### two ways by value -/
theorem built_mom0 (parts : List (Nat × Value)) : Tryz.prog.built 147 parts = Instr.fill (fun i => some (i * 2, 2)) [Value.slice none 0 0, .slice none 0 0, .slice none 0 0, .slice none 0 0].toArray parts := by kernel_rfl
theorem built_mom (u v : Value) (hu : lenC u 2 = true) (hv : lenC v 2 = true) : Tryz.prog.built 147 [(0, u), (1, v)] = some (cellsL u ++ cellsL v).toArray := by
  have hu' : (cellsL u).length = 2 := by simpa [lenC] using hu
  have hv' : (cellsL v).length = 2 := by simpa [lenC] using hv
  rw [built_mom0, fill_one _ _ 0 0 2 u _ rfl hu' (by simp), fill_one _ _ 1 2 2 v _ rfl hv' (by rw [len_spl (by simp [hu'])]; simp), fill_nil]
  have := spl_two (z := [Value.slice none 0 0, .slice none 0 0, .slice none 0 0, .slice none 0 0]) (a := cellsL u) (b := cellsL v) (by rw [hu', hv']; rfl)
  rw [hu'] at this
  rw [this]
@[go_sem ↓] theorem bd_mom (ρ : Operand → Value) (d : Option Tmp) (x y : Operand) (ty : TypeId) (s : String) (af : Array Edge) (g : Option (Nat × Bool)) (w : World) (h1 : lenC (ρ x) 2 = true) (h2 : lenC (ρ y) 2 = true) :
    (execOp ρ { dst := d, op := .build 147 #[(0, x), (1, y)], type := ty, pos := s, after := af, guard := g }).run Tryz.prog w = .ok (.value (.agg (cellsL (ρ x) ++ cellsL (ρ y)).toArray)) w :=
  exec_build ρ d #[(0, x), (1, y)] ty s af g w (by simp only [List.map_toArray, List.map_cons, List.map_nil]; exact built_mom _ _ h1 h2)

theorem canPut_block {w w' : World} {p : Addr} {n : Nat} (h : w'.heap[p.block]? = w.heap[p.block]?) : canPut w' p n = canPut w p n := by unfold canPut; rw [h]
/-- what four links bring: values that read as lists of rows in blocks of R -/
structure InsR (R : Nat → Prop) (w : World) (a : Nat → Option Addr) (ln cp : Nat → Nat) (ins : Nat → List Rw) : Prop where
  rd : ∀ i, i < 4 → RdRs R w (a i) (ln i) (ins i)
  le : ∀ i, i < 4 → ln i ≤ cp i ∧ cp i ≤ maxLen
def insV (a : Nat → Option Addr) (ln cp : Nat → Nat) (i : Nat) : Value := .slice (a i) (ln i) (cp i)
def HearPost (S : Nat → Prop) (p gp : Nat) (L : LaneM) (ins : Nat → List Rw) (w : World) (e : Ending) (w' : World) : Prop :=
  ∃ (m : Nat) (G' : Nat → Nat) (g : Nat), w.heap.size ≤ m ∧ LaneAt (GrowS S w.heap.size m) w' p gp G' (L.put ins) ∧ e = .returned (.slice (some ⟨g, 0, none⟩) L.n L.n) ∧ m ≤ g ∧
    RowsB (fun b => m ≤ b ∧ b ≠ g) w' g 118 (tab L.n (L.put ins).held) ∧ Chg (fun b => b = p ∨ b = gp) w w'

/-- behind the count of ticks -/
structure Hear4 (w : World) (p gp : Nat) (L : LaneM) (ins : Nat → List Rw) (iv : List Value) (wx : World) : Prop where
  b0 : Blk wx w.heap.size 31 #[.pointer (some ⟨p, 0, none⟩)]
  b1 : Blk wx (w.heap.size + 1) 100 iv.toArray
  b2 : Blk wx (w.heap.size + 1 + 1) 3 #[.int .i64 L.T]
  l : Blk wx p 142 (laneV (L.put ins) gp).toArray
  c : Chg (· = p) w wx
  sz : w.heap.size + 1 + 1 < wx.heap.size
theorem Hear4.drew {w : World} {p gp : Nat} {L : LaneM} {ins : Nat → List Rw} {iv : List Value} {wx : World} (h : Hear4 w p gp L ins iv wx) : Hear4 w p gp L ins iv wx.drew := ⟨h.b0.drew, h.b1.drew, h.b2.drew, h.l.drew, h.c.drew, h.sz⟩
theorem hear4_of {S : Nat → Prop} {w : World} {p gp : Nat} {G : Nat → Nat} {L : LaneM} {ins : Nat → List Rw} (hL : LaneAt S w p gp G L) (iv : List Value) :
    Hear4 w p gp L ins iv (((((w.alloc (.cells #[Value.pointer (some ⟨p, 0, none⟩)] 31)).alloc (.cells iv.toArray 100)).alloc (.cells #[Value.int .i64 L.T] 3)).setCell ⟨p, 2, none⟩ (.int .i64 ((L.T : Int) + 1))).setCell ⟨p, 3, none⟩ (.bool true)) := by
  have hplt := hL.b.lt
  have k0 := ((Blk.new w 31 #[Value.pointer (some ⟨p, 0, none⟩)]).alloc (.cells iv.toArray 100)).alloc (.cells #[Value.int .i64 L.T] 3)
  have k1 := (Blk.new (w.alloc (.cells #[Value.pointer (some ⟨p, 0, none⟩)] 31)) 100 iv.toArray).alloc (.cells #[Value.int .i64 L.T] 3)
  have k2 := Blk.new ((w.alloc (.cells #[Value.pointer (some ⟨p, 0, none⟩)] 31)).alloc (.cells iv.toArray 100)) 3 #[Value.int .i64 L.T]
  have s1 : (w.alloc (.cells #[Value.pointer (some ⟨p, 0, none⟩)] 31)).heap.size = w.heap.size + 1 := by simp
  have s2 : ((w.alloc (.cells #[Value.pointer (some ⟨p, 0, none⟩)] 31)).alloc (.cells iv.toArray 100)).heap.size = w.heap.size + 1 + 1 := by simp
  rw [s1] at k1
  rw [s2] at k2
  have k3 := ((hL.b.alloc (.cells #[Value.pointer (some ⟨p, 0, none⟩)] 31)).alloc (.cells iv.toArray 100)).alloc (.cells #[Value.int .i64 L.T] 3)
  refine ⟨(k0.far (by simp; omega) _).far (by simp; omega) _, (k1.far (by simp; omega) _).far (by simp; omega) _, (k2.far (by simp; omega) _).far (by simp; omega) _, ?_, ?_, by simp⟩
  · have := (k3.set_ 2 (.int .i64 ((L.T : Int) + 1))).set_ 3 (.bool true)
    have e : ((laneV L gp).toArray.setIfInBounds 2 (.int .i64 ((L.T : Int) + 1))).setIfInBounds 3 (.bool true) = (laneV (L.put ins) gp).toArray := by
      simp [laneV, LaneM.put]
    rw [e] at this
    exact this
  · exact (((((Chg.refl (· = p) w).alloc _).alloc _).alloc _).setCell (p := ⟨p, 2, none⟩) (.inl rfl) _).setCell (p := ⟨p, 3, none⟩) (.inl rfl) _
theorem hear3_of {S : Nat → Prop} {w : World} {p gp : Nat} {G : Nat → Nat} {L : LaneM} (hL : LaneAt S w p gp G L) (iv : List Value) :
    Blk (((w.alloc (.cells #[Value.pointer (some ⟨p, 0, none⟩)] 31)).alloc (.cells iv.toArray 100)).alloc (.cells #[Value.int .i64 L.T] 3)) p 142 (laneV L gp).toArray ∧
    Blk (((w.alloc (.cells #[Value.pointer (some ⟨p, 0, none⟩)] 31)).alloc (.cells iv.toArray 100)).alloc (.cells #[Value.int .i64 L.T] 3)) w.heap.size 31 #[Value.pointer (some ⟨p, 0, none⟩)] ∧
    Blk (((w.alloc (.cells #[Value.pointer (some ⟨p, 0, none⟩)] 31)).alloc (.cells iv.toArray 100)).alloc (.cells #[Value.int .i64 L.T] 3)) (w.heap.size + 1 + 1) 3 #[Value.int .i64 L.T] := by
  have s2 : ((w.alloc (.cells #[Value.pointer (some ⟨p, 0, none⟩)] 31)).alloc (.cells iv.toArray 100)).heap.size = w.heap.size + 1 + 1 := by simp
  have k2 := Blk.new ((w.alloc (.cells #[Value.pointer (some ⟨p, 0, none⟩)] 31)).alloc (.cells iv.toArray 100)) 3 #[Value.int .i64 L.T]
  rw [s2] at k2
  exact ⟨((hL.b.alloc _).alloc _).alloc _, ((Blk.new w 31 #[Value.pointer (some ⟨p, 0, none⟩)]).alloc _).alloc _, k2⟩
/-- what is held, as far as source k -/
structure HeldI (w7 : World) (f : Nat → Rw) (n k : Nat) (wr : World) : Prop where
  r : RowsB (w7.heap.size < ·) wr w7.heap.size 118 (tab n fun s => if s < k then f s else rw0)
  bel : Below w7.heap.size w7 wr
theorem HeldI.drewN {w7 : World} {f : Nat → Rw} {n k : Nat} {wr : World} (h : HeldI w7 f n k wr) (q : Nat) : HeldI w7 f n k (wr.drewN q) := ⟨h.r.drewN q, Below.drewN_ h.bel q⟩
theorem HeldI.skip {w7 : World} {f : Nat → Rw} {n k : Nat} {wr : World} (h : HeldI w7 f n k wr) (hz : f k = rw0) : HeldI w7 f n (k + 1) wr := ⟨by
  have := h.r
  rw [tab_congr (g := fun s => if s < k + 1 then f s else rw0) (fun j _ => by
    by_cases hjk : j < k
    · rw [if_pos hjk, if_pos (by omega)]
    · by_cases e : j = k
      · subst e; rw [if_neg hjk, if_pos (by omega), hz]
      · rw [if_neg hjk, if_neg (by omega)])] at this
  exact this, h.bel⟩
theorem HeldI.step {w7 : World} {f : Nat → Rw} {n k : Nat} {wr w9 w10 : World} (h : HeldI w7 f n k wr) (h9 : Below wr.heap.size wr w9) (h10 : Below w9.heap.size w9 w10) (hk : k < n) (ho : (f k).ok) {tv : Value} (ht : RowX (w9.heap.size ≤ ·) w10 (f k) tv) :
    canPut w10 ⟨w7.heap.size, k * 57, none⟩ 57 = true ∧ HeldI w7 f n (k + 1) (putRow w10 ⟨w7.heap.size, k * 57, none⟩ ((f k).vals tv)) := by
  have hg := h.r.lt
  have hz := h9.size
  have hB : Below wr.heap.size wr w10 := h9.trans (h10.mono hz)
  have hr := h.r.keep hB.size (fun b _ hl => hB.block b hl)
  refine ⟨hr.canPut k (by rw [tab_len]; exact hk), ?_, Below.put (h.bel.trans (hB.mono h.bel.size)) (p := ⟨w7.heap.size, k * 57, none⟩) (Nat.le_refl _) _⟩
  have h1 := hr.set (fun b hb => by omega) (k := k) (by rw [tab_len]; exact hk) ho (ht.mono (S' := (w7.heap.size < ·)) (fun b _ hb => by omega))
  rw [tab_put (g := fun s => if s < k + 1 then f s else rw0) hk (by rw [if_pos (by omega)]) (fun j hj hne => by
    by_cases hjk : j < k
    · rw [if_pos hjk, if_pos (by omega)]
    · rw [if_neg hjk, if_neg (by omega)])] at h1
  exact h1
theorem held_zero (f : Nat → Rw) {n : Nat} : List.replicate n rw0 = tab n fun s => if s < 0 then f s else rw0 := tab_ext (by simp) fun k hk => by rw [if_neg (by omega)]; simp [hk]
set_option maxRecDepth 100000 in
set_option maxHeartbeats 4000000 in
theorem hear_any (S R : Nat → Prop) (p gp : Nat) (G : Nat → Nat) (L : LaneM) (a : Nat → Option Addr) (ln cp : Nat → Nat) (ins : Nat → List Rw) (w : World) (hL : LaneAt S w p gp G L) (hI : InsR R w a ln cp ins) (hR : ∀ b, R b → b ≠ p ∧ b ≠ gp) (hT : L.T ≤ 100000000) (hins : ∀ i, ∀ r ∈ ins i, r.ok) :
    Calls Tryz.prog 16 #[.pointer (some ⟨p, 0, none⟩), .agg #[insV a ln cp 0, insV a ln cp 1, insV a ln cp 2, insV a ln cp 3]] w (HearPost S p gp L ins w) := by
  have HL := Lib.hid hL
  have HI := Lib.hid hI
  have HR := Lib.hid hR
  have HO := Lib.hid hins
  obtain ⟨c0, c1, c2, c3, c4⟩ := hL.cells
  obtain ⟨h4, h16, hm⟩ := hL.bd
  have hplt := hL.b.lt
  obtain ⟨i0, hi0⟩ : ∃ i0, i0 = insV a ln cp 0 := ⟨_, rfl⟩
  obtain ⟨i1, hi1⟩ : ∃ i1, i1 = insV a ln cp 1 := ⟨_, rfl⟩
  obtain ⟨i2, hi2⟩ : ∃ i2, i2 = insV a ln cp 2 := ⟨_, rfl⟩
  obtain ⟨i3, hi3⟩ : ∃ i3, i3 = insV a ln cp 3 := ⟨_, rfl⟩
  rw [← hi0, ← hi1, ← hi2, ← hi3]
  have HV := Lib.hid (And.intro hi0 (And.intro hi1 (And.intro hi2 hi3)))
  have hn0 : ¬ ((L.n : Int) = 0) := by omega
  have hn0b : ((L.n : Int) == 0) = false := by simp; omega
  have HE4 : Hid (Hear4 w p gp L ins [i0, i1, i2, i3] (((((w.alloc (.cells #[Value.pointer (some ⟨p, 0, none⟩)] 31)).alloc (.cells #[i0, i1, i2, i3] 100)).alloc (.cells #[Value.int .i64 L.T] 3)).setCell ⟨p, 2, none⟩ (.int .i64 ((L.T : Int) + 1))).setCell ⟨p, 3, none⟩ (.bool true))) := Lib.hid (hear4_of hL [i0, i1, i2, i3])
  have F3 : Hid (Blk (((w.alloc (.cells #[Value.pointer (some ⟨p, 0, none⟩)] 31)).alloc (.cells #[i0, i1, i2, i3] 100)).alloc (.cells #[Value.int .i64 L.T] 3)) p 142 (laneV L gp).toArray ∧ Blk (((w.alloc (.cells #[Value.pointer (some ⟨p, 0, none⟩)] 31)).alloc (.cells #[i0, i1, i2, i3] 100)).alloc (.cells #[Value.int .i64 L.T] 3)) w.heap.size 31 #[Value.pointer (some ⟨p, 0, none⟩)] ∧ Blk (((w.alloc (.cells #[Value.pointer (some ⟨p, 0, none⟩)] 31)).alloc (.cells #[i0, i1, i2, i3] 100)).alloc (.cells #[Value.int .i64 L.T] 3)) (w.heap.size + 1 + 1) 3 #[Value.int .i64 L.T]) := Lib.hid (hear3_of hL [i0, i1, i2, i3])
  have wT : IntKind.i64.wrap ((L.T : Int) + 1) = (L.T : Int) + 1 := IntWalk.i64_in _ (by omega)
  clear hL hI hR hins hi0 hi1 hi2 hi3
  go_enter Tryz.func16, Tryz.ntmps16
  go_upto_region 4 with fail
  generalize (((w.alloc (.cells #[Value.pointer (some ⟨p, 0, none⟩)] 31)).alloc (.cells #[i0, i1, i2, i3] 100)).alloc (.cells #[Value.int .i64 L.T] 3)) = w3 at HE4 F3 ⊢
  obtain ⟨q3, -⟩ := F3.out.1.rules
  have d2 : w3.cell? ⟨p, 2, none⟩ = some (.int .i64 L.T) := by rw [q3]; rfl
  have d3 : w3.cell? ⟨p, 3, none⟩ = some (.bool L.b) := by rw [q3]; rfl
  have z2 := F3.out.1.frozen 2
  have z3 := F3.out.1.frozen 3
  have b0 := F3.out.2.1.cell 0
  have b2 := F3.out.2.2.cell 0
  simp at b0 b2
  clear q3 c0 c1 c2 c3 c4
  go_cut [] from 22 to 29 (fun wx => ∃ wc : World, wc = wx ∧ Hear4 w p gp L ins [i0, i1, i2, i3] wc)
  case first =>
    go_region_law (first | fail)
    all_goals go_wp2_with fail
    all_goals go_meet
    all_goals first | exact ⟨_, rfl, HE4.out⟩ | exact ⟨_, rfl, HE4.out.drew⟩
  case rest =>
    obtain ⟨w4, rfl, h4c⟩ := hcut
    have H4 := Lib.hid h4c
    clear h4c HE4 F3 d2 d3 z2 z3 b0 b2
    obtain ⟨j, hj⟩ : ∃ j, j = slotM L := ⟨_, rfl⟩
    have hjn : j < L.n + 1 := by rw [hj]; exact Nat.mod_lt _ (by omega)
    have e1 : (L.T : Int).tmod (L.n + 1) = (j : Int) := by rw [hj, Int.tmod_eq_emod_of_nonneg (by omega)]; unfold slotM; norm_cast
    have e2 : (L.T : Int) % (L.n + 1) = (j : Int) := by rw [hj]; unfold slotM; norm_cast
    have HJ := Lib.hid hj
    clear hj
    have hpg : Hid (p ≠ gp ∧ p < w.heap.size ∧ gp < w.heap.size) := Lib.hid ⟨HL.out.ne.1, HL.out.b.lt, HL.out.g.lt⟩
    have hg4 : Hid (Blk w4 gp 147 (momCells L.n L.T G).toArray) := Lib.hid (HL.out.g.chg H4.out.c (fun e => hpg.out.1 e.symm))
    have F : Hid (∀ w' : World, Chg (· = gp) w4 w' → canPut w' ⟨gp, j * 4, none⟩ 4 = true → (w'.cell? ⟨w.heap.size, 0, none⟩ = some (.pointer (some ⟨p, 0, none⟩)) ∧ w'.cell? ⟨p, 0, none⟩ = some (.int .i64 L.n) ∧ w'.cell? ⟨p, 4, none⟩ = some (.slice (some ⟨gp, 0, none⟩) (L.n + 1) (L.n + 1)) ∧ w'.cell? ⟨w.heap.size + 1 + 1, 0, none⟩ = some (.int .i64 L.T) ∧ w'.cell? ⟨w.heap.size + 1, 0, none⟩ = some i0 ∧ w'.cell? ⟨w.heap.size + 1, 1, none⟩ = some i1 ∧ w'.cell? ⟨w.heap.size + 1, 2, none⟩ = some i2 ∧ w'.cell? ⟨w.heap.size + 1, 3, none⟩ = some i3 ∧ canPut w' ⟨gp, j * 4, none⟩ 4 = true ∧ Chg (· = gp) w4 w')) := Lib.hid fun w' hc hp => by
      obtain ⟨x1, x2, x3⟩ := hpg.out
      have hsz := H4.out.sz
      have k0 := (H4.out.b0.chg hc (by omega)).cell 0
      have k2 := (H4.out.b2.chg hc (by omega)).cell 0
      obtain ⟨k1, -⟩ := (H4.out.b1.chg hc (by omega)).rules
      obtain ⟨kl, -⟩ := (H4.out.l.chg hc x1).rules
      simp at k0 k2
      exact ⟨k0, by rw [kl]; rfl, by rw [kl]; rfl, k2, by rw [k1]; rfl, by rw [k1]; rfl, by rw [k1]; rfl, by rw [k1]; rfl, hp, hc⟩
    have FA : Hid (∀ w' : World, (w'.cell? ⟨w.heap.size, 0, none⟩ = some (.pointer (some ⟨p, 0, none⟩)) ∧ w'.cell? ⟨p, 0, none⟩ = some (.int .i64 L.n) ∧ w'.cell? ⟨p, 4, none⟩ = some (.slice (some ⟨gp, 0, none⟩) (L.n + 1) (L.n + 1)) ∧ w'.cell? ⟨w.heap.size + 1 + 1, 0, none⟩ = some (.int .i64 L.T) ∧ w'.cell? ⟨w.heap.size + 1, 0, none⟩ = some i0 ∧ w'.cell? ⟨w.heap.size + 1, 1, none⟩ = some i1 ∧ w'.cell? ⟨w.heap.size + 1, 2, none⟩ = some i2 ∧ w'.cell? ⟨w.heap.size + 1, 3, none⟩ = some i3 ∧ canPut w' ⟨gp, j * 4, none⟩ 4 = true ∧ Chg (· = gp) w4 w') → Calls Tryz.prog 39 #[.pointer (some ⟨p, 0, none⟩), .int .i64 0, .agg #[i0], .agg #[i1]] w' (SidePost L.n L.me 0 (ins 0) (ins 1) w')) := Lib.hid fun w' ⟨s1, s2, s3, s4, s5, s6, s7, s8, s9, hc⟩ => by
      obtain ⟨x1, x2, x3⟩ := hpg.out
      obtain ⟨kl, -⟩ := (H4.out.l.chg hc x1).rules
      obtain ⟨y0, y1, y2, y3⟩ := HV.out
      have hRd : ∀ i, i < 4 → RdRs R w' (a i) (ln i) (ins i) := fun i hi => ((HI.out.rd i hi).chg H4.out.c (fun b _ hb => (HR.out b hb).1)).chg hc (fun b _ hb => (HR.out b hb).2)
      rw [y0, y1]
      exact side_any R R p L.n L.me 0 (a 0) (a 1) (ln 0) (cp 0) (ln 1) (cp 1) (ins 0) (ins 1) w' s2 (by rw [kl]; rfl) (by have := hc.size; have := H4.out.sz; omega) h4 h16 hm (hRd 0 (by omega)) (HI.out.le 0 (by omega)).1 (HI.out.le 0 (by omega)).2 (hRd 1 (by omega)) (HI.out.le 1 (by omega)).1 (HI.out.le 1 (by omega)).2
    have FB : Hid (∀ w' : World, (w'.cell? ⟨w.heap.size, 0, none⟩ = some (.pointer (some ⟨p, 0, none⟩)) ∧ w'.cell? ⟨p, 0, none⟩ = some (.int .i64 L.n) ∧ w'.cell? ⟨p, 4, none⟩ = some (.slice (some ⟨gp, 0, none⟩) (L.n + 1) (L.n + 1)) ∧ w'.cell? ⟨w.heap.size + 1 + 1, 0, none⟩ = some (.int .i64 L.T) ∧ w'.cell? ⟨w.heap.size + 1, 0, none⟩ = some i0 ∧ w'.cell? ⟨w.heap.size + 1, 1, none⟩ = some i1 ∧ w'.cell? ⟨w.heap.size + 1, 2, none⟩ = some i2 ∧ w'.cell? ⟨w.heap.size + 1, 3, none⟩ = some i3 ∧ canPut w' ⟨gp, j * 4, none⟩ 4 = true ∧ Chg (· = gp) w4 w') → Calls Tryz.prog 39 #[.pointer (some ⟨p, 0, none⟩), .int .i64 1, .agg #[i2], .agg #[i3]] w' (SidePost L.n L.me 1 (ins 2) (ins 3) w')) := Lib.hid fun w' ⟨s1, s2, s3, s4, s5, s6, s7, s8, s9, hc⟩ => by
      obtain ⟨x1, x2, x3⟩ := hpg.out
      obtain ⟨kl, -⟩ := (H4.out.l.chg hc x1).rules
      obtain ⟨y0, y1, y2, y3⟩ := HV.out
      have hRd : ∀ i, i < 4 → RdRs R w' (a i) (ln i) (ins i) := fun i hi => ((HI.out.rd i hi).chg H4.out.c (fun b _ hb => (HR.out b hb).1)).chg hc (fun b _ hb => (HR.out b hb).2)
      rw [y2, y3]
      exact side_any R R p L.n L.me 1 (a 2) (a 3) (ln 2) (cp 2) (ln 3) (cp 3) (ins 2) (ins 3) w' s2 (by rw [kl]; rfl) (by have := hc.size; have := H4.out.sz; omega) h4 h16 hm (hRd 2 (by omega)) (HI.out.le 2 (by omega)).1 (HI.out.le 2 (by omega)).2 (hRd 3 (by omega)) (HI.out.le 3 (by omega)).1 (HI.out.le 3 (by omega)).2
    have F0 : Hid (∀ w' : World, Below w4.heap.size w4 w' → (w'.cell? ⟨w.heap.size, 0, none⟩ = some (.pointer (some ⟨p, 0, none⟩)) ∧ w'.cell? ⟨p, 0, none⟩ = some (.int .i64 L.n) ∧ w'.cell? ⟨p, 4, none⟩ = some (.slice (some ⟨gp, 0, none⟩) (L.n + 1) (L.n + 1)) ∧ w'.cell? ⟨w.heap.size + 1 + 1, 0, none⟩ = some (.int .i64 L.T) ∧ w'.cell? ⟨w.heap.size + 1, 0, none⟩ = some i0 ∧ w'.cell? ⟨w.heap.size + 1, 1, none⟩ = some i1 ∧ w'.cell? ⟨w.heap.size + 1, 2, none⟩ = some i2 ∧ w'.cell? ⟨w.heap.size + 1, 3, none⟩ = some i3 ∧ canPut w' ⟨gp, j * 4, none⟩ 4 = true ∧ Chg (· = gp) w4 w')) := Lib.hid fun w' hb => by
      refine F.out w' (Chg.of_below hb _) ?_
      rw [canPut_block (w := w4) (hb.block gp hg4.out.lt)]
      obtain ⟨-, -, -, -, q5⟩ := hg4.out.rules
      rw [q5, momCells_len]; simp; omega
    have F1 : Hid (∀ w' w'' : World, Below w'.heap.size w' w'' → (w'.cell? ⟨w.heap.size, 0, none⟩ = some (.pointer (some ⟨p, 0, none⟩)) ∧ w'.cell? ⟨p, 0, none⟩ = some (.int .i64 L.n) ∧ w'.cell? ⟨p, 4, none⟩ = some (.slice (some ⟨gp, 0, none⟩) (L.n + 1) (L.n + 1)) ∧ w'.cell? ⟨w.heap.size + 1 + 1, 0, none⟩ = some (.int .i64 L.T) ∧ w'.cell? ⟨w.heap.size + 1, 0, none⟩ = some i0 ∧ w'.cell? ⟨w.heap.size + 1, 1, none⟩ = some i1 ∧ w'.cell? ⟨w.heap.size + 1, 2, none⟩ = some i2 ∧ w'.cell? ⟨w.heap.size + 1, 3, none⟩ = some i3 ∧ canPut w' ⟨gp, j * 4, none⟩ 4 = true ∧ Chg (· = gp) w4 w') → (w''.cell? ⟨w.heap.size, 0, none⟩ = some (.pointer (some ⟨p, 0, none⟩)) ∧ w''.cell? ⟨p, 0, none⟩ = some (.int .i64 L.n) ∧ w''.cell? ⟨p, 4, none⟩ = some (.slice (some ⟨gp, 0, none⟩) (L.n + 1) (L.n + 1)) ∧ w''.cell? ⟨w.heap.size + 1 + 1, 0, none⟩ = some (.int .i64 L.T) ∧ w''.cell? ⟨w.heap.size + 1, 0, none⟩ = some i0 ∧ w''.cell? ⟨w.heap.size + 1, 1, none⟩ = some i1 ∧ w''.cell? ⟨w.heap.size + 1, 2, none⟩ = some i2 ∧ w''.cell? ⟨w.heap.size + 1, 3, none⟩ = some i3 ∧ canPut w'' ⟨gp, j * 4, none⟩ 4 = true ∧ Chg (· = gp) w4 w'')) := Lib.hid fun w' w'' hb h => by
      obtain ⟨s1, s2, s3, s4, s5, s6, s7, s8, s9, hc⟩ := h
      refine F.out w'' (hc.trans (Chg.of_below hb _)) ?_
      rw [canPut_block (w := w') (hb.block gp (by have := hc.size; have := hg4.out.lt; omega))]
      exact s9
    have F2 : Hid (∀ (w' : World) (x1 x2 x3 x4 : Value), (w'.cell? ⟨w.heap.size, 0, none⟩ = some (.pointer (some ⟨p, 0, none⟩)) ∧ w'.cell? ⟨p, 0, none⟩ = some (.int .i64 L.n) ∧ w'.cell? ⟨p, 4, none⟩ = some (.slice (some ⟨gp, 0, none⟩) (L.n + 1) (L.n + 1)) ∧ w'.cell? ⟨w.heap.size + 1 + 1, 0, none⟩ = some (.int .i64 L.T) ∧ w'.cell? ⟨w.heap.size + 1, 0, none⟩ = some i0 ∧ w'.cell? ⟨w.heap.size + 1, 1, none⟩ = some i1 ∧ w'.cell? ⟨w.heap.size + 1, 2, none⟩ = some i2 ∧ w'.cell? ⟨w.heap.size + 1, 3, none⟩ = some i3 ∧ canPut w' ⟨gp, j * 4, none⟩ 4 = true ∧ Chg (· = gp) w4 w') → ((putRow w' ⟨gp, j * 4, none⟩ [x1, x2, x3, x4]).cell? ⟨w.heap.size, 0, none⟩ = some (.pointer (some ⟨p, 0, none⟩)) ∧ (putRow w' ⟨gp, j * 4, none⟩ [x1, x2, x3, x4]).cell? ⟨p, 0, none⟩ = some (.int .i64 L.n) ∧ (putRow w' ⟨gp, j * 4, none⟩ [x1, x2, x3, x4]).cell? ⟨p, 4, none⟩ = some (.slice (some ⟨gp, 0, none⟩) (L.n + 1) (L.n + 1)) ∧ (putRow w' ⟨gp, j * 4, none⟩ [x1, x2, x3, x4]).cell? ⟨w.heap.size + 1 + 1, 0, none⟩ = some (.int .i64 L.T) ∧ (putRow w' ⟨gp, j * 4, none⟩ [x1, x2, x3, x4]).cell? ⟨w.heap.size + 1, 0, none⟩ = some i0 ∧ (putRow w' ⟨gp, j * 4, none⟩ [x1, x2, x3, x4]).cell? ⟨w.heap.size + 1, 1, none⟩ = some i1 ∧ (putRow w' ⟨gp, j * 4, none⟩ [x1, x2, x3, x4]).cell? ⟨w.heap.size + 1, 2, none⟩ = some i2 ∧ (putRow w' ⟨gp, j * 4, none⟩ [x1, x2, x3, x4]).cell? ⟨w.heap.size + 1, 3, none⟩ = some i3 ∧ canPut (putRow w' ⟨gp, j * 4, none⟩ [x1, x2, x3, x4]) ⟨gp, j * 4, none⟩ 4 = true ∧ Chg (· = gp) w4 (putRow w' ⟨gp, j * 4, none⟩ [x1, x2, x3, x4]))) := Lib.hid fun w' x1 x2 x3 x4 h => by
      obtain ⟨-, -, -, -, -, -, -, -, s9, hc⟩ := h
      refine F.out _ (hc.put (p := ⟨gp, j * 4, none⟩) (.inl rfl) [x1, x2, x3, x4]) ?_
      rw [canPut_put _ _ _ _ _ s9]
      exact s9
    have wn : IntKind.i64.wrap ((L.n : Int) + 1) = (L.n : Int) + 1 := IntWalk.i64_in _ (by omega)
    have e3 : ¬ ((L.n : Int) + 1 = 0) := by omega
    have e4 : (j : Int) < L.n + 1 := by omega
    have e5 : (0 : Int) ≤ j := by omega
    go_upto_region 5 with fail
    go_region_held3 (fun w' => (w'.cell? ⟨w.heap.size, 0, none⟩ = some (.pointer (some ⟨p, 0, none⟩)) ∧ w'.cell? ⟨p, 0, none⟩ = some (.int .i64 L.n) ∧ w'.cell? ⟨p, 4, none⟩ = some (.slice (some ⟨gp, 0, none⟩) (L.n + 1) (L.n + 1)) ∧ w'.cell? ⟨w.heap.size + 1 + 1, 0, none⟩ = some (.int .i64 L.T) ∧ w'.cell? ⟨w.heap.size + 1, 0, none⟩ = some i0 ∧ w'.cell? ⟨w.heap.size + 1, 1, none⟩ = some i1 ∧ w'.cell? ⟨w.heap.size + 1, 2, none⟩ = some i2 ∧ w'.cell? ⟨w.heap.size + 1, 3, none⟩ = some i3 ∧ canPut w' ⟨gp, j * 4, none⟩ 4 = true ∧ Chg (· = gp) w4 w'))
      (with_reducible (first | assumption | exact F0.out _ (Below.refl _ _).drew | exact F1.out _ _ (by assumption) (by assumption) | exact F2.out _ _ _ _ _ (by assumption)))
      ((first
        | ((with_reducible refine (FA.out _ (by assumption)).mono ?_); rintro e w5 ⟨gt0, gn0, rfl, ga1, ga2, ga3, ga4, ga5, hb5⟩; have HA := Lib.hid (And.intro ga1 (And.intro ga2 (And.intro ga3 (And.intro ga4 ga5)))); clear ga1 ga2 ga3 ga4 ga5)
        | ((with_reducible refine (FB.out _ (by assumption)).mono ?_); rintro e w6 ⟨gt1, gn1, rfl, ga1, ga2, ga3, ga4, ga5, hb6⟩; have HB := Lib.hid (And.intro ga1 (And.intro ga2 (And.intro ga3 (And.intro ga4 ga5)))); clear ga1 ga2 ga3 ga4 ga5)))
    have HB5 := Lib.hid hb5
    have HB6 := Lib.hid hb6
    have H7 : Hid (LaneAt (GrowS S w.heap.size w6.heap.size) (putRow w6 ⟨gp, j * 4, none⟩ [.slice (some ⟨gt0, 0, none⟩) L.n L.n, .slice (some ⟨gn0, 0, none⟩) L.n L.n, .slice (some ⟨gt1, 0, none⟩) L.n L.n, .slice (some ⟨gn1, 0, none⟩) L.n L.n]) p gp (putG G j gt0 gn0 gt1 gn1) (L.put ins) ∧ Blk (putRow w6 ⟨gp, j * 4, none⟩ [.slice (some ⟨gt0, 0, none⟩) L.n L.n, .slice (some ⟨gn0, 0, none⟩) L.n L.n, .slice (some ⟨gt1, 0, none⟩) L.n L.n, .slice (some ⟨gn1, 0, none⟩) L.n L.n]) w.heap.size 31 #[.pointer (some ⟨p, 0, none⟩)] ∧ Blk (putRow w6 ⟨gp, j * 4, none⟩ [.slice (some ⟨gt0, 0, none⟩) L.n L.n, .slice (some ⟨gn0, 0, none⟩) L.n L.n, .slice (some ⟨gt1, 0, none⟩) L.n L.n, .slice (some ⟨gn1, 0, none⟩) L.n L.n]) (w.heap.size + 1 + 1) 3 #[.int .i64 L.T] ∧ Chg (fun b => b = p ∨ b = gp) w (putRow w6 ⟨gp, j * 4, none⟩ [.slice (some ⟨gt0, 0, none⟩) L.n L.n, .slice (some ⟨gn0, 0, none⟩) L.n L.n, .slice (some ⟨gt1, 0, none⟩) L.n L.n, .slice (some ⟨gn1, 0, none⟩) L.n L.n]) ∧ (putRow w6 ⟨gp, j * 4, none⟩ [.slice (some ⟨gt0, 0, none⟩) L.n L.n, .slice (some ⟨gn0, 0, none⟩) L.n L.n, .slice (some ⟨gt1, 0, none⟩) L.n L.n, .slice (some ⟨gn1, 0, none⟩) L.n L.n]).heap.size = w6.heap.size ∧ w.heap.size + 1 + 1 < w6.heap.size) := Lib.hid (by
      obtain ⟨x1, x2, x3⟩ := hpg.out
      have hsz := H4.out.sz
      have z5 : w4.heap.size ≤ w5.heap.size := HB5.out.size
      have z6 : w5.heap.size ≤ w6.heap.size := HB6.out.size
      obtain ⟨a1, a2, a3, a4, a5⟩ := HA.out
      obtain ⟨b1, b2, b3, b4, b5⟩ := HB.out
      have a1' : w4.heap.size ≤ gt0 := a1
      have a2' : w4.heap.size ≤ gn0 := a2
      have hc7 := (Chg.refl (· = gp) w6).put (p := ⟨gp, j * 4, none⟩) (.inl rfl) [.slice (some ⟨gt0, 0, none⟩) L.n L.n, .slice (some ⟨gn0, 0, none⟩) L.n L.n, .slice (some ⟨gt1, 0, none⟩) L.n L.n, .slice (some ⟨gn1, 0, none⟩) L.n L.n]
      have hB46 : Below w4.heap.size w4 w6 := ((Below.refl _ _).drew.trans HB5.out).trans (HB6.out.mono z5)
      have hs7 : (putRow w6 ⟨gp, j * 4, none⟩ [.slice (some ⟨gt0, 0, none⟩) L.n L.n, .slice (some ⟨gn0, 0, none⟩) L.n L.n, .slice (some ⟨gt1, 0, none⟩) L.n L.n, .slice (some ⟨gn1, 0, none⟩) L.n L.n]).heap.size = w6.heap.size := by simp
      have A5 : SideAt w4.heap.size w5.heap.size w5 gt0 gn0 L.n (momM L.n L.me ins 0) (momM L.n L.me ins 1) := ⟨a4.mono (fun b hl hb => ⟨hb.1, hl, hb.2.1, hb.2.2⟩), a5.mono (fun b hl hb => ⟨hb.1, hl, hb.2.1, hb.2.2⟩), a1', a2', a3, a4.lt, a5.lt⟩
      have B6 : SideAt w5.heap.size w6.heap.size w6 gt1 gn1 L.n (momM L.n L.me ins 2) (momM L.n L.me ins 3) := ⟨b4.mono (fun b hl hb => ⟨hb.1, hl, hb.2.1, hb.2.2⟩), b5.mono (fun b hl hb => ⟨hb.1, hl, hb.2.1, hb.2.2⟩), b1, b2, b3, b4.lt, b5.lt⟩
      have A6 := (A5.keep z6 (fun b _ hl => HB6.out.block b hl)).keep hc7.size (fun b hl1 hl2 => hc7.block b (by omega) (by omega))
      have B7 := B6.keep hc7.size (fun b hl1 hl2 => hc7.block b (by omega) (by omega))
      have hgp6 := hg4.out.below hB46 (by omega)
      refine ⟨HL.out.put_ HO.out (lo := w4.heap.size) (m0 := w5.heap.size) (m := w6.heap.size) (by omega) z5 z6 (by omega) HJ.out ?_ ?_ (fun b hb hne1 hne2 => ?_) A6 B7, ?_, ?_, ?_, hs7, by omega⟩
      · exact (H4.out.l.below hB46 (by omega)).chg hc7 x1
      · exact hgp6.put (j * 4) _
      · have hlt := HL.out.lt b hb
        exact (hc7.block b (by omega) hne2).trans ((hB46.block b (by omega)).trans (H4.out.c.block b hlt hne1))
      · exact (H4.out.b0.below hB46 (by omega)).chg hc7 (by omega)
      · exact (H4.out.b2.below hB46 (by omega)).chg hc7 (by omega)
      · exact ((H4.out.c.mono (fun k _ h => .inl h)).trans (Chg.of_below hB46 _)).trans (hc7.mono (fun k _ h => .inr h)))
    clear hb5 hb6 HA HB HB5
    have hmf : ∀ (fn : Fn) (first cap : Array Value) (w : World), (Instr.makeFunc fn first cap).run Tryz.prog w = .ok (.func fn first cap) w := fun _ _ _ _ => rfl
    have hmk : L.n ≤ 1048576 := by omega
    generalize (putRow w6 ⟨gp, j * 4, none⟩ [.slice (some ⟨gt0, 0, none⟩) L.n L.n, .slice (some ⟨gn0, 0, none⟩) L.n L.n, .slice (some ⟨gt1, 0, none⟩) L.n L.n, .slice (some ⟨gn1, 0, none⟩) L.n L.n]) = w7 at H7 ⊢
    clear F F0 F1 F2 FA FB hg4 HB6
    have F7 : Hid (∀ w' : World, Below w7.heap.size w7 w' → w'.cell? ⟨w.heap.size, 0, none⟩ = some (.pointer (some ⟨p, 0, none⟩)) ∧ w'.cell? ⟨p, 0, none⟩ = some (.int .i64 L.n) ∧ w'.cell? ⟨w.heap.size + 1 + 1, 0, none⟩ = some (.int .i64 L.T) ∧ w'.cell? ⟨p, 1, none⟩ = some (.int .i64 L.me)) := Lib.hid fun w' hb => by
      obtain ⟨h1, h2, h3, -⟩ := H7.out
      have k0 := (h2.below hb h2.lt).cell 0
      have k2 := (h3.below hb h3.lt).cell 0
      obtain ⟨c0, c1, -⟩ := (h1.below hb).cells
      simp at k0 k2
      exact ⟨k0, c0, k2, c1⟩
    obtain ⟨f, hf⟩ : ∃ f, f = (L.put ins).held := ⟨_, rfl⟩
    have HF := Lib.hid hf
    have hfo : Hid (∀ s, (f s).ok ∧ (f s).t.length ≤ 100000) := Lib.hid fun s => by
      rw [hf]
      have := LaneM.held_tlen H7.out.1.okt s
      exact ⟨LaneM.held_ok H7.out.1.ok s, by omega⟩
    have FO : Hid (∀ (w' : World) (s : Nat), Below w7.heap.size w7 w' → s < L.n → L.n ≤ L.T → Calls Tryz.prog 42 #[.pointer (some ⟨p, 0, none⟩), .int .i64 s, .func (.func 40) #[] #[.pointer (some ⟨w.heap.size, 0, none⟩), .pointer (some ⟨w.heap.size + 1 + 1, 0, none⟩)]] w' (OfPost (f s) w')) := Lib.hid fun w' s hb hs hnT => by
      obtain ⟨h1, h2, h3, -⟩ := H7.out
      have h1' := h1.below hb
      obtain ⟨c0, c1, -⟩ := h1'.cells
      have hw := h1'.was (h2.below hb h2.lt) (h3.below hb h3.lt) rfl hnT (by omega)
      have := of_any p w.heap.size (w.heap.size + 1 + 1) L.n L.me s _ w' c0 c1 h1'.b.lt h4 h16 hm hs hw (fun a q s => h1'.ok _ q s)
      rw [hf]
      unfold LaneM.held
      rw [if_pos (by show L.n ≤ L.T + 1 - 1; omega)]
      exact this
    have FZ : Hid (¬ L.n ≤ L.T → ∀ s, f s = rw0) := Lib.hid fun h s => by
      rw [hf]; unfold LaneM.held
      rw [if_neg (by show ¬ L.n ≤ L.T + 1 - 1; omega)]
    clear hf
    have HI7 : Hid (HeldI w7 f L.n 0 (w7.alloc (.cells (zrep rowZ L.n).toArray 118))) := Lib.hid ⟨by
      have := RowsB.start (w7.heap.size < ·) w7 118 L.n
      rw [held_zero f] at this
      exact this, (Below.refl _ _).alloc (Nat.le_refl _) _⟩
    obtain ⟨b0, b1, b2, b3⟩ := F7.out w7 (Below.refl _ _)
    go_wp2_with fail
    clear b0 b1 b2 b3
    generalize (w7.alloc (.cells (zrep rowZ L.n).toArray 118)) = w8 at HI7 ⊢
    go_loopw [63] (fun i wr => ∃ k : Nat, k ≤ L.n ∧ i = .int .i64 k ∧ HeldI w7 f L.n k wr) (fun i _ => L.n - (intOf i).toNat)
    case atStart => exact ⟨0, by omega, rfl, HI7.out⟩
    case round =>
      obtain ⟨k, hk, rfl, hI⟩ := hrel
      have HJ := Lib.hid hI
      clear hI
      by_cases hlt : k < L.n
      · obtain ⟨b0, b1, b2, -⟩ := F7.out wr HJ.out.bel
        have HLT := Lib.hid hlt
        by_cases hge : L.n ≤ L.T
        · have HGE := Lib.hid hge
          go_upto_region 11 with fail
          go_quiet (fail)
          go_wp2_with fail
          (with_reducible refine (FO.out _ k (Below.drewN_ HJ.out.bel _) HLT.out HGE.out).mono ?_)
          rintro e w9 ⟨tv, rfl, htr, hb9⟩
          have H9 : Hid (Below wr.heap.size wr w9) := Lib.hid ((Below.drewN_ (Below.refl _ _) _).trans hb9)
          have HC := Lib.hid (copy_any (fun _ => True) (f k) (hfo.out k).1 tv w9 htr (hfo.out k).2)
          obtain ⟨xv, hxv⟩ : ∃ xv, xv = (f k).vals tv := ⟨_, rfl⟩
          rw [← hxv] at HC ⊢
          clear htr hb9 hxv
          go_wp2_with fail
          (with_reducible refine HC.out.mono ?_)
          rintro e w10 ⟨x', rfl, hx', hb10⟩
          obtain ⟨yv, hyv⟩ : ∃ yv, yv = (f k).vals (.slice x' (f k).t.length (f k).t.length) := ⟨_, rfl⟩
          rw [← hyv]
          have hyl : yv.length = 57 := by rw [hyv]; exact Rw.len (hfo.out k).1 _
          have hyc : yv.all cell1 = true := by rw [hyv]; exact hx'.1.cell1 (hfo.out k).1
          have HS : Hid (canPut w10 ⟨w7.heap.size, k * 57, none⟩ 57 = true ∧ HeldI w7 f L.n (k + 1) (putRow w10 ⟨w7.heap.size, k * 57, none⟩ yv)) := Lib.hid (by
            rw [hyv]
            exact HJ.out.step H9.out hb10 HLT.out (hfo.out k).1 hx')
          have c3 := HS.out.1
          clear hx' hb10 hyv
          go_wp2_with fail
          exact ⟨⟨k + 1, by omega, by go_num, HS.out.2⟩, by simp [intOf]; omega⟩
        · have HZ := FZ.out hge k
          have HSK := Lib.hid (HJ.out.skip HZ)
          clear HZ
          go_upto_region 11 with fail
          go_quiet (fail)
          go_wp2_with fail
          exact ⟨⟨k + 1, by omega, by go_num, HSK.out.drewN _⟩, by simp [intOf]; omega⟩
      · obtain rfl : k = L.n := by omega
        go_wp2_with fail
        go_ret
        obtain ⟨h1, h2, h3, h4', h5, h6⟩ := H7.out
        have hr := HJ.out.r
        rw [tab_congr (g := f) (fun s hs => by rw [if_pos hs]), HF.out] at hr
        refine ⟨w6.heap.size, _, w7.heap.size, by omega, h1.below HJ.out.bel, rfl, by omega, hr.mono (fun b _ hb => ⟨by omega, by omega⟩), h4'.trans (Chg.of_below HJ.out.bel _)⟩
end Go.Proofs.YtnckfjmaochnkaaGreatDoor
