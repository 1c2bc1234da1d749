/-
  sennitlaw14.TracksVoid, walked. Arguments opened: flat values, slices of held things, rows and words.
-/
import Derived.Test.YtopakilglnpinaaGc44
import Derived.Test.YtopakilglnpinaaGc02
import Derived.OpenShut
import Derived.Deep.Fields
namespace Go.Proofs.Ytopakilglnpinaa
open Go.RowKit
set_option linter.unusedVariables false
set_option linter.unusedSimpArgs false

/-- a tick by value -/
def tkV (a : Nat → Option Addr) (ln cp : Nat → Nat) (tv : Value) (t : Tk) : List Value := insV a ln cp 0 :: insV a ln cp 1 :: insV a ln cp 2 :: insV a ln cp 3 :: (t.own.vals tv ++ [.int .u8 t.says])
/-- what a tick that came in reads as -/
structure TkIn (S : Nat → Prop) (w : World) (a : Nat → Option Addr) (ln cp : Nat → Nat) (tv : Value) (t : Tk) : Prop where
  rd : ∀ i, i < 4 → RdRs S w (a i) (ln i) (t.w i)
  le : ∀ i, i < 4 → ln i ≤ cp i ∧ cp i ≤ maxLen
  sz : ∀ i, i < 4 → szW (t.w i)
  ro : t.own.ok
  rt : RowR S w t.own tv
  rz : t.own.t.length ≤ 140737488355328
  sr : 0 ≤ t.says ∧ t.says ≤ 255
theorem tkV_len {S : Nat → Prop} {w : World} {a : Nat → Option Addr} {ln cp : Nat → Nat} {tv : Value} {t : Tk} (h : TkIn S w a ln cp tv t) : (tkV a ln cp tv t).length = 62 := by
  simp [tkV, Rw.len h.ro tv]
theorem TkIn.at_ {S : Nat → Prop} {w : World} {a : Nat → Option Addr} {ln cp : Nat → Nat} {tv : Value} {t : Tk} (h : TkIn S w a ln cp tv t) {b : Nat} {ty : TypeId} {w' : World} (hs : w.heap.size ≤ w'.heap.size) (hk : ∀ b, S b → b < w.heap.size → w'.heap[b]? = w.heap[b]?) (hb : Blk w' b ty (tkV a ln cp tv t).toArray) : TkAt S w' b 0 a ln cp tv t := by
  obtain ⟨q1, -, q3, q4, -⟩ := hb.rules
  have hl := tkV_len h
  have hr := Rw.len h.ro tv
  refine ⟨fun i hi => ?_, fun i hi => (h.rd i hi).keep hs hk, h.le, h.sz, by rw [q3]; simp; omega, ?_, h.ro, h.rt.keep hs hk, h.rz, ?_, h.sr⟩
  · rw [q1]
    have hc : i = 0 ∨ i = 1 ∨ i = 2 ∨ i = 3 := by omega
    rcases hc with rfl | rfl | rfl | rfl <;> rfl
  · rw [q4 _ _ (by omega)]
    show ((tkV a ln cp tv t).drop 4).take 57 = _
    show ((t.own.vals tv ++ [Value.int .u8 t.says])).take 57 = _
    rw [List.take_append_of_le_length (by omega), List.take_of_length_le (by omega)]
  · rw [q1]
    show (t.own.vals tv ++ [Value.int .u8 t.says])[57]? = _
    rw [List.getElem?_append_right (by omega), hr]; rfl
theorem tkV_cell1 {S : Nat → Prop} {w : World} {a : Nat → Option Addr} {ln cp : Nat → Nat} {tv : Value} {t : Tk} (h : TkIn S w a ln cp tv t) : (tkV a ln cp tv t).all cell1 = true := by
  have := h.rt.cell1 h.ro
  simp only [tkV, List.all_cons, List.all_append, this, List.all_nil]
  rfl
theorem ag_tick : aggOf Try.prog 56 62 = true := by kernel_rfl
theorem ag_ins : aggOf Try.prog 36 4 = true := by kernel_rfl
section
variable (ρ : Operand → Value) (d : Option Tmp) (x y : Operand) (ty : TypeId) (s : String) (af : Array Edge) (g : Option (Nat × Bool)) (w : World)
@[go_sem ↓] theorem ld_tick (h : hasRowV w 62 (ρ x) = true) :
    (execOp ρ { dst := d, op := .load 56 x, type := ty, pos := s, after := af, guard := g }).run Try.prog w = .ok (.value (.agg (rowV w 62 (ρ x)).toArray)) w := exec_load ag_tick ρ d x ty s af g w h
@[go_sem ↓] theorem ld_ins (h : hasRowV w 4 (ρ x) = true) :
    (execOp ρ { dst := d, op := .load 36 x, type := ty, pos := s, after := af, guard := g }).run Try.prog w = .ok (.value (.agg (rowV w 4 (ρ x)).toArray)) w := exec_load ag_ins ρ d x ty s af g w h
@[go_sem ↓] theorem bs_tick1 (h : lenC (ρ x) 62 = true) : (execOp ρ { dst := d, op := .buildSlice 22 1 #[(0, x)], type := ty, pos := s, after := af, guard := g }).run Try.prog w = .ok (.value (.slice (some ⟨w.heap.size, 0, none⟩) 1 1)) (w.alloc (.cells (cellsL (ρ x)).toArray 56)) := by
  have := exec_bslice (n := 62) Try.underlying22 (by kernel_rfl) ρ d 1 [x] #[(0, x)] ty s af g w (by simp [iparts]) rfl (by omega) (by omega) (by simp [h])
  simpa using this
end

theorem bal {w5 w' : World} (h : Below w5.heap.size w5 w') (o : Obj) : Below w5.heap.size w5 (w'.alloc o) := h.alloc h.size o
theorem bsc {w5 w' : World} {p : Addr} (hz : w5.heap.size ≤ p.block) (h : Below w5.heap.size w5 w') (v : Value) : Below w5.heap.size w5 (w'.setCell p v) := h.setCell hz v
/-- two words behind Say -/
def CutV (w5 : World) (s7 s8 : Value) (wx : World) : Prop :=
  ∃ wc : World, wc = wx ∧ ∃ ga gb, s7 = .pointer (some ⟨ga, 0, none⟩) ∧ s8 = .pointer (some ⟨gb, 0, none⟩) ∧ wc.cell? ⟨ga, 0, none⟩ = some (.slice none 0 0) ∧ wc.cell? ⟨gb, 0, none⟩ = some (.slice none 0 0) ∧ Below w5.heap.size w5 wc
theorem cell_pre {w6 w8 : World} (h : Below ((w6.alloc (.cells #[Value.slice none 0 0] 34)).drew).heap.size ((w6.alloc (.cells #[Value.slice none 0 0] 34)).drew) w8) : w8.cell? ⟨w6.heap.size, 0, none⟩ = some (.slice none 0 0) ∧ w8.frozen? ⟨w6.heap.size, 0, none⟩ = false ∧ w6.heap.size < w8.heap.size := by
  have hb : Blk ((w6.alloc (.cells #[Value.slice none 0 0] 34)).drew) w6.heap.size 34 #[Value.slice none 0 0] := (Blk.new w6 _ _).drew
  have h2 := hb.below h hb.lt
  exact ⟨h2.cell 0, h2.frozen 0, h2.lt⟩
theorem cell_pre2 {w6 w8 : World} (h : Below (((w6.alloc (.cells #[Value.slice none 0 0] 34)).alloc (.cells #[Value.slice none 0 0] 34)).drew).heap.size (((w6.alloc (.cells #[Value.slice none 0 0] 34)).alloc (.cells #[Value.slice none 0 0] 34)).drew) w8) : w8.cell? ⟨w6.heap.size, 0, none⟩ = some (.slice none 0 0) ∧ w8.frozen? ⟨w6.heap.size, 0, none⟩ = false ∧ w8.cell? ⟨w6.heap.size + 1, 0, none⟩ = some (.slice none 0 0) ∧ w8.frozen? ⟨w6.heap.size + 1, 0, none⟩ = false ∧ w6.heap.size + 1 < w8.heap.size := by
  have s1 : (w6.alloc (.cells #[Value.slice none 0 0] 34)).heap.size = w6.heap.size + 1 := by simp
  have hb : Blk (((w6.alloc (.cells #[Value.slice none 0 0] 34)).alloc (.cells #[Value.slice none 0 0] 34)).drew) w6.heap.size 34 #[Value.slice none 0 0] := ((Blk.new w6 _ _).alloc _).drew
  have k1 := (Blk.new (w6.alloc (.cells #[Value.slice none 0 0] 34)) 34 #[Value.slice none 0 0]).drew
  rw [s1] at k1
  have h2 := hb.below h hb.lt
  have h3 := k1.below h k1.lt
  exact ⟨h2.cell 0, h2.frozen 0, h3.cell 0, h3.frozen 0, h3.lt⟩
end Go.Proofs.Ytopakilglnpinaa
namespace Go.Proofs.Ytopakilglnpinaa
open Go.RowKit Go.ChangeShapes Go.WideShapes
set_option linter.unusedVariables false
set_option linter.unusedSimpArgs false

section
variable {H : Type} {enc : TypeId × Value → H} {P : Program} {w : World} {base : Nat} {spare : Nat → Bool} {held : Bool}
theorem flat_fs {d : Nat} {cs : List Value} (IH : ∀ t ks, flatT P d t = some ks → P.cellsOf t = ks.length → ∀ fuel c x, DataW.trod enc P w base spare held fuel t c = some x → okL ks c = true) : ∀ (fs : List Field) (o : Nat) (ks : List Kd), flatFs P (flatT P d) o fs = some ks →
    (∀ (i : Nat) (f : Field), fs[i]? = some f → ∃ n y, DataW.trod enc P w base spare held n f.type ((cs.drop f.offset).take (P.cellsOf f.type)) = some y) → okL ks ((cs.drop o).take ks.length) = true
  | [], o, ks, h, _ => by simp [flatFs] at h; subst h; simp [okL]
  | f :: fs, o, ks, h, hf => by
    unfold flatFs at h
    split at h
    · cases h
    · rename_i hno
      simp only [not_or, ne_eq, Decidable.not_not] at hno
      obtain ⟨hn, ho⟩ := hno
      split at h
      · rename_i k1 i hk1 hi
        split at h
        · rename_i hs
          rw [Option.map_eq_some_iff] at h
          obtain ⟨k2, hk2, rfl⟩ := h
          have hc : P.cellsOf f.type = k1.length := by simp [Program.cellsOf, hi, hs]
          obtain ⟨n, y, hy⟩ := hf 0 f rfl
          have h1 := IH f.type k1 hk1 hc n _ y hy
          rw [hc, ho] at h1
          have h2 := flat_fs IH fs (o + k1.length) k2 hk2 (fun i f hi => hf (i + 1) f (by simpa using hi))
          rw [List.length_append, List.take_add, List.drop_drop]
          exact okL_append h1 h2
        · cases h
      · cases h
theorem flat_open : ∀ (d : Nat) (t : TypeId) (ks : List Kd), flatT P d t = some ks → P.cellsOf t = ks.length → ∀ (fuel : Nat) (cs : List Value) (x : DataW H × List MemPlace), DataW.trod enc P w base spare held fuel t cs = some x → okL ks cs = true
  | 0, t, ks, h, _, _, _, _, _ => by simp [flatT] at h
  | d + 1, t, ks, h, hsz, fuel, cs, x, hx => by
    unfold flatT at h
    cases hu : P.underlying t with
    | none => simp [hu] at h
    | some u =>
      rw [hu] at h
      cases u <;> simp only [reduceCtorEq] at h
      case bool =>
        simp at h
        subst h
        obtain ⟨b, rfl, _⟩ := DataW.trod_bool hu hx
        simp [okL, okK]
      case int k =>
        simp at h
        subst h
        obtain ⟨n, rfl, _, hw⟩ := DataW.trod_int hu hx
        simp [okL, okK, hw]
      case struct fs =>
        split at h
        · cases h
        · obtain ⟨xs, n, _, _, hlen, hxl, hf⟩ := DataW.trod_struct hu hx
          have := flat_fs (cs := cs) (fun t ks h1 h2 => flat_open d t ks h1 h2) fs.toList 0 ks h (fun i f hi => by
            have hi' : fs[i]? = some f := by simpa using hi
            have hil : i < xs.length := by rw [hxl]; exact (Array.getElem?_eq_some_iff.1 hi').1
            exact ⟨n, xs[i], by rw [hf i f hi', List.getElem?_eq_getElem hil]⟩)
          rwa [List.drop_zero, List.take_of_length_le (by omega)] at this
      case array n e =>
        split at h
        · rename_i k1 i hk1 hi
          split at h
          · rename_i hs
            simp at h
            subst h
            have hc : P.cellsOf e = k1.length := by simp [Program.cellsOf, hi, hs]
            obtain ⟨xs, m, _, _, hlen, hxl, hf⟩ := DataW.trod_array hu hx
            have key : ∀ (r s : Nat), s + r ≤ n → okL (List.replicate r k1).flatten ((cs.drop (s * k1.length)).take (r * k1.length)) = true := by
              intro r
              induction r with
              | zero => intro s _; simp [okL]
              | succ r ih =>
                intro s hsr
                have hil : s < xs.length := by omega
                have h1 := flat_open d e k1 hk1 hc m _ _ (by rw [hf s (by omega), List.getElem?_eq_getElem hil])
                rw [hc] at h1
                have h2 := ih (s + 1) (by omega)
                rw [List.replicate_succ, List.flatten_cons, show (r + 1) * k1.length = k1.length + r * k1.length from by rw [Nat.succ_mul, Nat.add_comm], List.take_add, List.drop_drop]
                rw [show (s + 1) * k1.length = s * k1.length + k1.length from Nat.succ_mul _ _] at h2
                exact okL_append h1 h2
            have := key n 0 (by omega)
            rw [Nat.zero_mul, List.drop_zero] at this
            rwa [List.take_of_length_le (by rw [hlen, hsz]; simp)] at this
          · cases h
        · cases h

/-- a slice of held things (of whichever package), opened -/
theorem RdHs.open_ {t e : TypeId} {a : Option Addr} {len cap : Nat} {d : DataW H × List MemPlace} {fuel : Nat} (ht : P.underlying t = some (.slice e)) (hf : flatT P 7 e = some heldK) (hc : P.cellsOf e = 56)
    (h : DataW.trod enc P w 0 spare held fuel t [.slice a len cap] = some d) : ∃ l, RdHs (· < w.heap.size) w a len l ∧ len ≤ cap ∧ cap ≤ maxLen := by
  rcases Deep.open_slice ht h with ⟨hcs, _⟩ | ⟨x, l, c, m, n, D, Pl, hcs, _, hl, hm, hmm, _, hx⟩
  · simp at hcs
    obtain ⟨rfl, rfl, rfl⟩ := hcs
    exact ⟨[], ⟨rfl, by simp, by simp⟩, Nat.le_refl _, by simp⟩
  · simp at hcs
    obtain ⟨rfl, rfl, rfl⟩ := hcs
    have hle : len ≤ m := by rw [hmm]; split <;> omega
    rw [hc] at hx
    have key : ∀ i, i < len → ∃ y : Hd, y.ok ∧ w.cells? 0 (x.add (i * 56)) 56 = some y.vals := by
      intro i hi
      obtain ⟨cs, h1, h2⟩ := hx i (by omega)
      have hok := flat_open 7 e heldK hf (by rw [hc, len_heldK]) n cs _ h2
      cases cs with
      | nil => simp [heldK, okL] at hok
      | cons v r =>
        rw [heldK, okL, Bool.and_eq_true] at hok
        cases v <;> simp [okK] at hok
        exact ⟨⟨_, r⟩, hok, h1⟩
    haveI : Inhabited Hd := ⟨hd0⟩
    obtain ⟨F, hF⟩ := Deep.choose_lt (α := Hd) key
    refine ⟨(List.range len).map F, ⟨by simp, fun y hy => ?_, fun k y hy => ?_⟩, hl, hm⟩
    · simp at hy
      obtain ⟨i, hi, rfl⟩ := hy
      exact (hF i hi).1
    · rw [List.getElem?_map, Option.map_eq_some_iff] at hy
      obtain ⟨k', hk', rfl⟩ := hy
      have hlt : k < len := by
        rcases Nat.lt_or_ge k len with h | h
        · exact h
        · rw [List.getElem?_eq_none (by simpa using h)] at hk'; cases hk'
      rw [List.getElem?_range hlt] at hk'
      cases hk'
      obtain ⟨h1, h2⟩ := hF k hlt
      obtain ⟨_, hcl, hat⟩ := World.cells?_some h2
      have hcell : ∀ j v, (F k).vals[j]? = some v → w.cell? ((x.add (k * 56)).add j) = some v := fun j v hv => by
        have hj : j < 56 := by rw [← hcl]; exact (List.getElem?_eq_some_iff.1 hv).1
        rw [hat j hj, hv]
      have hr := row_of_cells hcell
      rw [hcl] at hr
      have h0 := hcell 0 (.bool (F k).is) rfl
      obtain ⟨b, off, spot⟩ := x
      have hs : spot = none := by
        have h00 := hF 0 (by omega)
        obtain ⟨_, hcl0, hat0⟩ := World.cells?_some h00.2
        have := World.cell?_spot ((hat0 0 (by omega)).trans (rfl : (F 0).vals[0]? = some (.bool (F 0).is)))
        simpa [Addr.add] using this
      subst hs
      rw [add_at] at hr h0
      exact ⟨b, off, rfl, World.block_lt_of_cell? w _ h0, World.block_lt_of_cell? w _ h0, hr.1, hr.2⟩
end
end Go.Proofs.Ytopakilglnpinaa
