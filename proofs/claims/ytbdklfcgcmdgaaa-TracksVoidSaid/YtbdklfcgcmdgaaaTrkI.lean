
/-
  sennitlaw14.TracksVoid, walked.
-/
import Derived.Test.YtbdklfcgcmdgaaaTrkH
namespace Go.Proofs.Ytbdklfcgcmdgaaa
open Go.RowKit
set_option linter.unusedVariables false
set_option linter.unusedSimpArgs false

/-- a tick by value -/
def tkV (a : Nat → Option Addr) (ln cp : Nat → Nat) (tv : Value) (t : Tk) : List Value := insV a ln cp 0 :: insV a ln cp 1 :: insV a ln cp 2 :: insV a ln cp 3 :: (t.own.vals tv ++ [.int .u8 t.says])
/-- what a tick that came in reads as -/
structure TkIn (S : Nat → Prop) (w : World) (a : Nat → Option Addr) (ln cp : Nat → Nat) (tv : Value) (t : Tk) : Prop where
  rd : ∀ i, i < 4 → RdRs S w (a i) (ln i) (t.w i)
  le : ∀ i, i < 4 → ln i ≤ cp i ∧ cp i ≤ maxLen
  sz : ∀ i, i < 4 → szW (t.w i)
  ro : t.own.ok
  rt : RowR S w t.own tv
  rz : t.own.t.length ≤ 140737488355328
  sr : 0 ≤ t.says ∧ t.says ≤ 255
theorem tkV_len {S : Nat → Prop} {w : World} {a : Nat → Option Addr} {ln cp : Nat → Nat} {tv : Value} {t : Tk} (h : TkIn S w a ln cp tv t) : (tkV a ln cp tv t).length = 62 := by
  simp [tkV, Rw.len h.ro tv]
theorem TkIn.at_ {S : Nat → Prop} {w : World} {a : Nat → Option Addr} {ln cp : Nat → Nat} {tv : Value} {t : Tk} (h : TkIn S w a ln cp tv t) {b : Nat} {ty : TypeId} {w' : World} (hs : w.heap.size ≤ w'.heap.size) (hk : ∀ b, S b → b < w.heap.size → w'.heap[b]? = w.heap[b]?) (hb : Blk w' b ty (tkV a ln cp tv t).toArray) : TkAt S w' b 0 a ln cp tv t := by
  obtain ⟨q1, -, q3, q4, -⟩ := hb.rules
  have hl := tkV_len h
  have hr := Rw.len h.ro tv
  refine ⟨fun i hi => ?_, fun i hi => (h.rd i hi).keep hs hk, h.le, h.sz, by rw [q3]; simp; omega, ?_, h.ro, h.rt.keep hs hk, h.rz, ?_, h.sr⟩
  · rw [q1]
    have hc : i = 0 ∨ i = 1 ∨ i = 2 ∨ i = 3 := by omega
    rcases hc with rfl | rfl | rfl | rfl <;> rfl
  · rw [q4 _ _ (by omega)]
    show ((tkV a ln cp tv t).drop 4).take 57 = _
    show ((t.own.vals tv ++ [Value.int .u8 t.says])).take 57 = _
    rw [List.take_append_of_le_length (by omega), List.take_of_length_le (by omega)]
  · rw [q1]
    show (t.own.vals tv ++ [Value.int .u8 t.says])[57]? = _
    rw [List.getElem?_append_right (by omega), hr]; rfl
theorem tkV_cell1 {S : Nat → Prop} {w : World} {a : Nat → Option Addr} {ln cp : Nat → Nat} {tv : Value} {t : Tk} (h : TkIn S w a ln cp tv t) : (tkV a ln cp tv t).all cell1 = true := by
  have := h.rt.cell1 h.ro
  simp only [tkV, List.all_cons, List.all_append, this, List.all_nil]
  rfl
theorem ag_tick : aggOf Try.prog 56 62 = true := by kernel_rfl
theorem ag_ins : aggOf Try.prog 36 4 = true := by kernel_rfl
section
variable (ρ : Operand → Value) (d : Option Tmp) (x y : Operand) (ty : TypeId) (s : String) (af : Array Edge) (g : Option (Nat × Bool)) (w : World)
@[go_sem ↓] theorem ld_tick (h : hasRowV w 62 (ρ x) = true) :
    (execOp ρ { dst := d, op := .load 56 x, type := ty, pos := s, after := af, guard := g }).run Try.prog w = .ok (.value (.agg (rowV w 62 (ρ x)).toArray)) w := exec_load ag_tick ρ d x ty s af g w h
@[go_sem ↓] theorem ld_ins (h : hasRowV w 4 (ρ x) = true) :
    (execOp ρ { dst := d, op := .load 36 x, type := ty, pos := s, after := af, guard := g }).run Try.prog w = .ok (.value (.agg (rowV w 4 (ρ x)).toArray)) w := exec_load ag_ins ρ d x ty s af g w h
@[go_sem ↓] theorem bs_tick1 (h : lenC (ρ x) 62 = true) : (execOp ρ { dst := d, op := .buildSlice 22 1 #[(0, x)], type := ty, pos := s, after := af, guard := g }).run Try.prog w = .ok (.value (.slice (some ⟨w.heap.size, 0, none⟩) 1 1)) (w.alloc (.cells (cellsL (ρ x)).toArray 56)) := by
  have := exec_bslice (n := 62) Try.underlying22 (by kernel_rfl) ρ d 1 [x] #[(0, x)] ty s af g w (by simp [iparts]) rfl (by omega) (by omega) (by simp [h])
  simpa using this
end

theorem bal {w5 w' : World} (h : Below w5.heap.size w5 w') (o : Obj) : Below w5.heap.size w5 (w'.alloc o) := h.alloc h.size o
theorem bsc {w5 w' : World} {p : Addr} (hz : w5.heap.size ≤ p.block) (h : Below w5.heap.size w5 w') (v : Value) : Below w5.heap.size w5 (w'.setCell p v) := h.setCell hz v
/-- two words behind Say -/
def CutV (w5 : World) (s7 s8 : Value) (wx : World) : Prop :=
  ∃ wc : World, wc = wx ∧ ∃ ga gb, s7 = .pointer (some ⟨ga, 0, none⟩) ∧ s8 = .pointer (some ⟨gb, 0, none⟩) ∧ wc.cell? ⟨ga, 0, none⟩ = some (.slice none 0 0) ∧ wc.cell? ⟨gb, 0, none⟩ = some (.slice none 0 0) ∧ Below w5.heap.size w5 wc
theorem cell_pre {w6 w8 : World} (h : Below ((w6.alloc (.cells #[Value.slice none 0 0] 34)).drew).heap.size ((w6.alloc (.cells #[Value.slice none 0 0] 34)).drew) w8) : w8.cell? ⟨w6.heap.size, 0, none⟩ = some (.slice none 0 0) ∧ w8.frozen? ⟨w6.heap.size, 0, none⟩ = false ∧ w6.heap.size < w8.heap.size := by
  have hb : Blk ((w6.alloc (.cells #[Value.slice none 0 0] 34)).drew) w6.heap.size 34 #[Value.slice none 0 0] := (Blk.new w6 _ _).drew
  have h2 := hb.below h hb.lt
  exact ⟨h2.cell 0, h2.frozen 0, h2.lt⟩
theorem cell_pre2 {w6 w8 : World} (h : Below (((w6.alloc (.cells #[Value.slice none 0 0] 34)).alloc (.cells #[Value.slice none 0 0] 34)).drew).heap.size (((w6.alloc (.cells #[Value.slice none 0 0] 34)).alloc (.cells #[Value.slice none 0 0] 34)).drew) w8) : w8.cell? ⟨w6.heap.size, 0, none⟩ = some (.slice none 0 0) ∧ w8.frozen? ⟨w6.heap.size, 0, none⟩ = false ∧ w8.cell? ⟨w6.heap.size + 1, 0, none⟩ = some (.slice none 0 0) ∧ w8.frozen? ⟨w6.heap.size + 1, 0, none⟩ = false ∧ w6.heap.size + 1 < w8.heap.size := by
  have s1 : (w6.alloc (.cells #[Value.slice none 0 0] 34)).heap.size = w6.heap.size + 1 := by simp
  have hb : Blk (((w6.alloc (.cells #[Value.slice none 0 0] 34)).alloc (.cells #[Value.slice none 0 0] 34)).drew) w6.heap.size 34 #[Value.slice none 0 0] := ((Blk.new w6 _ _).alloc _).drew
  have k1 := (Blk.new (w6.alloc (.cells #[Value.slice none 0 0] 34)) 34 #[Value.slice none 0 0]).drew
  rw [s1] at k1
  have h2 := hb.below h hb.lt
  have h3 := k1.below h k1.lt
  exact ⟨h2.cell 0, h2.frozen 0, h3.cell 0, h3.frozen 0, h3.lt⟩
set_option maxRecDepth 100000 in
set_option maxHeartbeats 4000000 in
theorem tvoid_any (a : Nat → Option Addr) (ln cp : Nat → Nat) (tv : Value) (t : Tk) (w : World) (h : TkIn (· < w.heap.size) w a ln cp tv t) :
    Calls Try.prog 4 #[.agg (tkV a ln cp tv t).toArray] w fun e w' => e = .returned (.bool true) ∧ Below w.heap.size w w' := by
  obtain ⟨kv, hkv⟩ : ∃ kv, kv = tkV a ln cp tv t := ⟨_, rfl⟩
  have hkl : kv.length = 62 := by rw [hkv]; exact tkV_len h
  have hkc : kv.all cell1 = true := by rw [hkv]; exact tkV_cell1 h
  rw [← hkv]
  have HKV := Lib.hid hkv
  have HT := Lib.hid h
  clear h hkv
  have htk : List.take 62 kv = kv := List.take_of_length_le (by omega)
  go_enter Try.func4, Try.ntmps4
  go_wp2_with fail
  have H2 : Hid (Blk ((w.alloc (.cells kv.toArray 56)).alloc (.cells kv.toArray 56)) w.heap.size 56 kv.toArray ∧ Below w.heap.size w ((w.alloc (.cells kv.toArray 56)).alloc (.cells kv.toArray 56)) ∧ RdTk (· < ((w.alloc (.cells kv.toArray 56)).alloc (.cells kv.toArray 56)).heap.size) ((w.alloc (.cells kv.toArray 56)).alloc (.cells kv.toArray 56)) (some ⟨w.heap.size + 1, 0, none⟩) 1 [t]) := Lib.hid (by
    have s1 : (w.alloc (.cells kv.toArray 56)).heap.size = w.heap.size + 1 := by simp
    have k1 := Blk.new (w.alloc (.cells kv.toArray 56)) 56 kv.toArray
    rw [s1] at k1
    have hB : Below w.heap.size w ((w.alloc (.cells kv.toArray 56)).alloc (.cells kv.toArray 56)) := ((Below.refl _ _).alloc (Nat.le_refl _) _).alloc (by simp) _
    refine ⟨(Blk.new _ _ _).alloc _, hB, rfl, fun k t' ht => ?_⟩
    cases k with
    | zero =>
      simp at ht
      subst ht
      have hat := HT.out.at_ (w' := ((w.alloc (.cells kv.toArray 56)).alloc (.cells kv.toArray 56))) hB.size (fun b hb _ => hB.block b hb) (by rw [← HKV.out]; exact k1)
      refine ⟨w.heap.size + 1, 0, a, ln, cp, tv, rfl, k1.lt, k1.lt, ?_⟩
      have h3 := hat.keep (Nat.le_refl _) rfl (fun _ _ _ => rfl)
      refine ⟨h3.c, fun i hi => (h3.rd i hi).mono (fun b hl _ => hl), h3.le, h3.sz, h3.r1, h3.r2, h3.ro, h3.rt.mono (fun b hl _ => hl), h3.rz, h3.s, h3.sr⟩
    | succ k => simp at ht)
  generalize ((w.alloc (.cells kv.toArray 56)).alloc (.cells kv.toArray 56)) = w2 at H2 ⊢
  have HC := Lib.hid (great14_any (some ⟨w.heap.size + 1, 0, none⟩) 1 1 [t] w2 H2.out.2.2 (Nat.le_refl _) (by simp [maxLen]))
  (with_reducible refine HC.out.mono ?_)
  rintro e w3 ⟨⟨bb, rfl, -⟩, hb3⟩
  have H3 : Hid (Below w.heap.size w w3 ∧ Blk w3 w.heap.size 56 kv.toArray) := Lib.hid ⟨H2.out.2.1.trans (hb3.mono H2.out.2.1.size), H2.out.1.below hb3 H2.out.1.lt⟩
  clear HC hb3 H2
  cases bb with
  | true =>
    go_wp2_with fail
    refine (lives14_any w3).mono ?_
    rintro e w4 ⟨rfl, hb4⟩
    have HE := Lib.hid (H3.out.1.trans (hb4.mono H3.out.1.size))
    clear hb4
    go_wp2_with fail
    go_ret
    exact ⟨rfl, HE.out⟩
  | false =>
    have H5 : Hid (Blk ((w3.alloc (.cells #[Value.int .i64 0, .int .i64 0, .int .i64 0, .bool false, .slice none 0 0] 83)).alloc (.cells #[Value.pointer none, .pointer (some ⟨w3.heap.size, 0, none⟩)] 25)) w3.heap.size 83 #[Value.int .i64 0, .int .i64 0, .int .i64 0, .bool false, .slice none 0 0] ∧ Blk ((w3.alloc (.cells #[Value.int .i64 0, .int .i64 0, .int .i64 0, .bool false, .slice none 0 0] 83)).alloc (.cells #[Value.pointer none, .pointer (some ⟨w3.heap.size, 0, none⟩)] 25)) (w3.heap.size + 1) 25 #[Value.pointer none, .pointer (some ⟨w3.heap.size, 0, none⟩)] ∧ Blk ((w3.alloc (.cells #[Value.int .i64 0, .int .i64 0, .int .i64 0, .bool false, .slice none 0 0] 83)).alloc (.cells #[Value.pointer none, .pointer (some ⟨w3.heap.size, 0, none⟩)] 25)) w.heap.size 56 kv.toArray ∧ Below w.heap.size w ((w3.alloc (.cells #[Value.int .i64 0, .int .i64 0, .int .i64 0, .bool false, .slice none 0 0] 83)).alloc (.cells #[Value.pointer none, .pointer (some ⟨w3.heap.size, 0, none⟩)] 25)) ∧ w.heap.size ≤ ((w3.alloc (.cells #[Value.int .i64 0, .int .i64 0, .int .i64 0, .bool false, .slice none 0 0] 83)).alloc (.cells #[Value.pointer none, .pointer (some ⟨w3.heap.size, 0, none⟩)] 25)).heap.size) := Lib.hid (by
      have s1 : (w3.alloc (.cells #[Value.int .i64 0, .int .i64 0, .int .i64 0, .bool false, .slice none 0 0] 83)).heap.size = w3.heap.size + 1 := by simp
      have k1 := Blk.new (w3.alloc (.cells #[Value.int .i64 0, .int .i64 0, .int .i64 0, .bool false, .slice none 0 0] 83)) 25 #[Value.pointer none, .pointer (some ⟨w3.heap.size, 0, none⟩)]
      rw [s1] at k1
      have hB : Below w3.heap.size w3 ((w3.alloc (.cells #[Value.int .i64 0, .int .i64 0, .int .i64 0, .bool false, .slice none 0 0] 83)).alloc (.cells #[Value.pointer none, .pointer (some ⟨w3.heap.size, 0, none⟩)] 25)) := ((Below.refl _ _).alloc (Nat.le_refl _) _).alloc (by simp) _
      have hz := H3.out.1.size
      have hz2 := hB.size
      exact ⟨(Blk.new _ _ _).alloc _, k1, H3.out.2.below hB H3.out.2.lt, H3.out.1.trans (hB.mono hz), by omega⟩)
    obtain ⟨i0, hi0⟩ : ∃ i, i = insV a ln cp 0 := ⟨_, rfl⟩
    obtain ⟨i1, hi1⟩ : ∃ i, i = insV a ln cp 1 := ⟨_, rfl⟩
    obtain ⟨i2, hi2⟩ : ∃ i, i = insV a ln cp 2 := ⟨_, rfl⟩
    obtain ⟨i3, hi3⟩ : ∃ i, i = insV a ln cp 3 := ⟨_, rfl⟩
    obtain ⟨ov, hov⟩ : ∃ ov, ov = t.own.vals tv := ⟨_, rfl⟩
    have hol : ov.length = 57 := by rw [hov]; exact Rw.len HT.out.ro _
    have HKI : Hid (kv = i0 :: i1 :: i2 :: i3 :: (ov ++ [.int .u8 t.says])) := Lib.hid (by rw [HKV.out, hi0, hi1, hi2, hi3, hov]; rfl)
    clear hi0 hi1 hi2 hi3 hov
    go_upto_region 5 with fail
    generalize ((w3.alloc (.cells #[Value.int .i64 0, .int .i64 0, .int .i64 0, .bool false, .slice none 0 0] 83)).alloc (.cells #[Value.pointer none, .pointer (some ⟨w3.heap.size, 0, none⟩)] 25)) = w5 at H5 ⊢
    go_wp2_with fail
    go_loopw [5] (fun i wr => ∃ k : Nat, k ≤ 2 ∧ i = .int .i64 k ∧ Below w5.heap.size w5 wr) (fun i _ => 2 - (intOf i).toNat)
    case atStart => exact ⟨0, by omega, rfl, Below.refl _ _⟩
    case round =>
      obtain ⟨k, hk, rfl, hB⟩ := hrel
      have HB := Lib.hid hB
      clear hB
      by_cases hlt : k < 2
      · obtain ⟨pv, hpv⟩ : ∃ pv : Value, pv = if k = 0 then .pointer none else .pointer (some ⟨w3.heap.size, 0, none⟩) := ⟨_, rfl⟩
        have F : Hid (∀ w' : World, Below w5.heap.size w5 w' → (w'.cell? ⟨w3.heap.size + 1, k, none⟩ = some pv ∧ hasRow w' ⟨w.heap.size, 0, none⟩ 4 = true ∧ rowOf w' ⟨w.heap.size, 0, none⟩ 4 = [i0, i1, i2, i3] ∧ hasRow w' ⟨w.heap.size, 4, none⟩ 57 = true ∧ rowOf w' ⟨w.heap.size, 4, none⟩ 57 = ov)) := Lib.hid fun w' hb => by
          have k1 := H5.out.2.1.below hb H5.out.2.1.lt
          have k2 := H5.out.2.2.1.below hb H5.out.2.2.1.lt
          rw [HKI.out] at k2
          obtain ⟨-, -, q3, q4, -⟩ := k2.rules
          have c1 := k1.cell k
          have hl : (i0 :: i1 :: i2 :: i3 :: (ov ++ [Value.int .u8 t.says])).length = 62 := by simp [hol]
          refine ⟨?_, by rw [q3, hl]; rfl, by rw [q4 _ _ (by omega)]; rfl, by rw [q3, hl]; rfl, ?_⟩
          · rw [c1, hpv]
            have : k = 0 ∨ k = 1 := by omega
            rcases this with rfl | rfl <;> rfl
          · rw [q4 _ _ (by omega)]
            show ((ov ++ [Value.int .u8 t.says])).take 57 = _
            rw [List.take_append_of_le_length (by omega), List.take_of_length_le (by omega)]
        have FH : Hid (∀ w' : World, Below w5.heap.size w5 w' → Calls Try.prog 18 #[pv, .agg #[i0, i1, i2, i3]] w' fun e w'' => e = .returned (.slice none 0 0) ∧ Below w'.heap.size w' w'') := Lib.hid fun w' hb => by
          have k0 := H5.out.1.below hb H5.out.1.lt
          have c0 := k0.cell 0
          rw [hpv]
          have : k = 0 ∨ k = 1 := by omega
          rcases this with rfl | rfl
          · exact hear_nil i0 i1 i2 i3 w'
          · exact hear_zero _ i0 i1 i2 i3 w' c0 k0.lt
        have FS : Hid (∀ w' : World, Below w5.heap.size w5 w' → Calls Try.prog 22 #[pv, .agg ov.toArray] w' (SayNone w')) := Lib.hid fun w' hb => by
          have k0 := H5.out.1.below hb H5.out.1.lt
          have c3 := k0.cell 3
          rw [hpv]
          have : k = 0 ∨ k = 1 := by omega
          rcases this with rfl | rfl
          · exact say_nil ov w'
          · exact say_ended _ ov w' c3 k0.lt
        clear hpv
        have hk2 : (k : Int) < 2 := by omega
        have hk2b : decide ((k : Int) < 2) = true := by simp; omega
        have hk3 : (0 : Int) ≤ k := by omega
        go_upto_region 8 with fail
        go_region_held3 (fun w' => (w'.cell? ⟨w3.heap.size + 1, k, none⟩ = some pv ∧ hasRow w' ⟨w.heap.size, 0, none⟩ 4 = true ∧ rowOf w' ⟨w.heap.size, 0, none⟩ 4 = [i0, i1, i2, i3] ∧ hasRow w' ⟨w.heap.size, 4, none⟩ 57 = true ∧ rowOf w' ⟨w.heap.size, 4, none⟩ 57 = ov))
          (with_reducible (first | exact F.out _ HB.out.drew | exact F.out _ (HB.out.drew.trans H6.out)))
          ((first | ((with_reducible refine (FH.out _ HB.out.drew).mono ?_); rintro e w6 ⟨rfl, hb6⟩; have H6 := Lib.hid (hb6.mono (HB.out.drew).size); clear hb6)))
        have HB6 := Lib.hid (HB.out.drew.trans H6.out)
        have hz6 : w5.heap.size ≤ w6.heap.size := HB6.out.size
        have hz61 : w5.heap.size ≤ w6.heap.size + 1 := by omega
        clear FH
        go_upto_region 9 with fail
        go_cut [7, 8] from 25 to 34 (fun s7 s8 wx => CutV w5 s7 s8 wx)
        case first =>
          go_region_held3 (fun w' => (w'.cell? ⟨w3.heap.size + 1, k, none⟩ = some pv ∧ hasRow w' ⟨w.heap.size, 0, none⟩ 4 = true ∧ rowOf w' ⟨w.heap.size, 0, none⟩ 4 = [i0, i1, i2, i3] ∧ hasRow w' ⟨w.heap.size, 4, none⟩ 57 = true ∧ rowOf w' ⟨w.heap.size, 4, none⟩ 57 = ov))
            (((with_reducible refine F.out _ ?_); repeat' (with_reducible first | exact HB6.out | exact H8.out | refine Below.drew ?_ | refine bal ?_ _ | refine bsc hz6 ?_ _ | refine bsc hz61 ?_ _ | refine bsc hz8 ?_ _)))
            ((first
              | ((with_reducible refine (FS.out (w6.drew) HB6.out.drew).mono ?_); rintro e w8 ⟨rfl, hb8⟩; have H8 := Lib.hid (HB6.out.drew.trans (hb8.mono HB6.out.drew.size)); have hz8 : w5.heap.size ≤ w8.heap.size := H8.out.size; clear hb8)
              | ((with_reducible refine (FS.out ((w6.alloc (.cells #[Value.slice none 0 0] 34)).drew) (bal HB6.out _).drew).mono ?_); rintro e w8 ⟨rfl, hb8⟩; have H8 := Lib.hid ((bal HB6.out _).drew.trans (hb8.mono (bal HB6.out _).drew.size)); have hz8 : w5.heap.size ≤ w8.heap.size := H8.out.size; obtain ⟨c1, z1, l1⟩ := cell_pre hb8; clear hb8)
              | ((with_reducible refine (FS.out (((w6.alloc (.cells #[Value.slice none 0 0] 34)).alloc (.cells #[Value.slice none 0 0] 34)).drew) (bal (bal HB6.out _) _).drew).mono ?_); rintro e w8 ⟨rfl, hb8⟩; have H8 := Lib.hid ((bal (bal HB6.out _) _).drew.trans (hb8.mono (bal (bal HB6.out _) _).drew.size)); have hz8 : w5.heap.size ≤ w8.heap.size := H8.out.size; obtain ⟨c1, z1, c2, z2, l1⟩ := cell_pre2 hb8; clear hb8)))
          all_goals go_wp2_with fail
          all_goals go_meet
          all_goals (
            refine ⟨_, rfl, _, _, rfl, rfl, ?_, ?_, ?_⟩
            · first | (go_simp; done) | (simp; done) | (simp [*]; done)
            · first | (go_simp; done) | (simp; done) | (simp [*]; done)
            · repeat' (with_reducible first | exact H8.out | refine bal ?_ _ | refine bsc hz6 ?_ _ | refine bsc hz61 ?_ _ | refine bsc hz8 ?_ _))
        case rest =>
          obtain ⟨wc, rfl, ga, gb, rfl, rfl, hca, hcb, hBc⟩ := hcut
          have HBC := Lib.hid hBc
          clear hBc
          go_wp2_with fail
          exact ⟨⟨k + 1, by omega, by go_num, HBC.out⟩, by simp [intOf]; omega⟩
      · go_wp2_with fail
        refine (lives14_any wr).mono ?_
        rintro e w9 ⟨rfl, hb9⟩
        have HE := Lib.hid (H5.out.2.2.2.1.trans ((HB.out.trans (hb9.mono HB.out.size)).mono H5.out.2.2.2.2))
        clear hb9
        go_wp2_with fail
        go_ret
        exact ⟨rfl, HE.out⟩
end Go.Proofs.Ytbdklfcgcmdgaaa
