/-
  What is faulty: its acts, by value and in memory. Plain lemmas. Arguments opened: flat values, slices of held things, rows and words. Rows that came in, opened.
-/
import Derived.Test.YtbdklfcgcmdgaaaGa35
import Derived.Test.YtbdklfcgcmdgaaaGa02
import Derived.OpenShut
import Derived.Deep.Fields
import Derived.Test.YtbdklfcgcmdgaaaGa25
import Derived.SizedLaws
namespace Go.Proofs.Ytbdklfcgcmdgaaa
open Go.RowKit
set_option linter.unusedVariables false
set_option linter.unusedSimpArgs false

def ActM.vals (x : ActM) (tv : Value) : List Value := .int .u8 x.kind :: .int .u8 x.s :: x.row.vals tv
def ActM.ok (x : ActM) : Prop := (0 ≤ x.kind ∧ x.kind ≤ 255) ∧ (0 ≤ x.s ∧ x.s ≤ 255) ∧ x.row.ok
theorem ActM.len {x : ActM} (h : x.ok) (tv : Value) : (x.vals tv).length = 59 := by simp [ActM.vals, Rw.len h.2.2 tv]
/-- acts, read -/
def RdAs (S : Nat → Prop) (w : World) (a : Option Addr) (len : Nat) (l : List ActM) : Prop :=
  l.length = len ∧ (∀ x ∈ l, x.ok) ∧ ∀ (k : Nat) (x : ActM), l[k]? = some x → ∃ b off tv, a = some ⟨b, off, none⟩ ∧ S b ∧ b < w.heap.size ∧ hasRow w ⟨b, off + k * 59, none⟩ 59 = true ∧ rowOf w ⟨b, off + k * 59, none⟩ 59 = x.vals tv ∧ RowR S w x.row tv
theorem RdAs.keep {S : Nat → Prop} {w w' : World} {a : Option Addr} {len : Nat} {l : List ActM} (h : RdAs S w a len l) (hs : w.heap.size ≤ w'.heap.size) (hk : ∀ b, S b → b < w.heap.size → w'.heap[b]? = w.heap[b]?) : RdAs S w' a len l :=
  ⟨h.1, h.2.1, fun k x hx => by
    obtain ⟨b, off, tv, h1, h2, h3, h4, h5, h6⟩ := h.2.2 k x hx
    have hr := row_block (w := w) (w' := w') (p := ⟨b, off + k * 59, none⟩) (n := 59) (hk b h2 h3)
    exact ⟨b, off, tv, h1, h2, by omega, hr.1.trans h4, hr.2.trans h5, h6.keep hs hk⟩⟩
theorem RdAs.below {S : Nat → Prop} {w w' : World} {a : Option Addr} {len : Nat} {l : List ActM} (h : RdAs S w a len l) (hb : Below w.heap.size w w') : RdAs S w' a len l := h.keep hb.size fun b _ hl => hb.block b hl
theorem RdAs.mono {S S' : Nat → Prop} {w : World} {a : Option Addr} {len : Nat} {l : List ActM} (h : RdAs S w a len l) (hs : ∀ b, b < w.heap.size → S b → S' b) : RdAs S' w a len l :=
  ⟨h.1, h.2.1, fun k x hx => by
    obtain ⟨b, off, tv, h1, h2, h3, h4, h5, h6⟩ := h.2.2 k x hx
    exact ⟨b, off, tv, h1, hs b h3 h2, h3, h4, h5, h6.mono hs⟩⟩
theorem rdAs_nil (S : Nat → Prop) (w : World) : RdAs S w none 0 [] := ⟨rfl, by simp, by simp⟩
def FltM.vals (F : FltM) (v : Value) : List Value := [.bool F.link, .int .u8 F.at_, .int .u8 F.which, v]
end Go.Proofs.Ytbdklfcgcmdgaaa
namespace Go.Proofs.Ytbdklfcgcmdgaaa
open Go.RowKit Go.ChangeShapes Go.WideShapes
set_option linter.unusedVariables false
set_option linter.unusedSimpArgs false

section
variable {H : Type} {enc : TypeId × Value → H} {P : Program} {w : World} {base : Nat} {spare : Nat → Bool} {held : Bool}
theorem flat_fs {d : Nat} {cs : List Value} (IH : ∀ t ks, flatT P d t = some ks → P.cellsOf t = ks.length → ∀ fuel c x, DataW.trod enc P w base spare held fuel t c = some x → okL ks c = true) : ∀ (fs : List Field) (o : Nat) (ks : List Kd), flatFs P (flatT P d) o fs = some ks →
    (∀ (i : Nat) (f : Field), fs[i]? = some f → ∃ n y, DataW.trod enc P w base spare held n f.type ((cs.drop f.offset).take (P.cellsOf f.type)) = some y) → okL ks ((cs.drop o).take ks.length) = true
  | [], o, ks, h, _ => by simp [flatFs] at h; subst h; simp [okL]
  | f :: fs, o, ks, h, hf => by
    unfold flatFs at h
    split at h
    · cases h
    · rename_i hno
      simp only [not_or, ne_eq, Decidable.not_not] at hno
      obtain ⟨hn, ho⟩ := hno
      split at h
      · rename_i k1 i hk1 hi
        split at h
        · rename_i hs
          rw [Option.map_eq_some_iff] at h
          obtain ⟨k2, hk2, rfl⟩ := h
          have hc : P.cellsOf f.type = k1.length := by simp [Program.cellsOf, hi, hs]
          obtain ⟨n, y, hy⟩ := hf 0 f rfl
          have h1 := IH f.type k1 hk1 hc n _ y hy
          rw [hc, ho] at h1
          have h2 := flat_fs IH fs (o + k1.length) k2 hk2 (fun i f hi => hf (i + 1) f (by simpa using hi))
          rw [List.length_append, List.take_add, List.drop_drop]
          exact okL_append h1 h2
        · cases h
      · cases h
theorem flat_open : ∀ (d : Nat) (t : TypeId) (ks : List Kd), flatT P d t = some ks → P.cellsOf t = ks.length → ∀ (fuel : Nat) (cs : List Value) (x : DataW H × List MemPlace), DataW.trod enc P w base spare held fuel t cs = some x → okL ks cs = true
  | 0, t, ks, h, _, _, _, _, _ => by simp [flatT] at h
  | d + 1, t, ks, h, hsz, fuel, cs, x, hx => by
    unfold flatT at h
    cases hu : P.underlying t with
    | none => simp [hu] at h
    | some u =>
      rw [hu] at h
      cases u <;> simp only [reduceCtorEq] at h
      case bool =>
        simp at h
        subst h
        obtain ⟨b, rfl, _⟩ := DataW.trod_bool hu hx
        simp [okL, okK]
      case int k =>
        simp at h
        subst h
        obtain ⟨n, rfl, _, hw⟩ := DataW.trod_int hu hx
        simp [okL, okK, hw]
      case struct fs =>
        split at h
        · cases h
        · obtain ⟨xs, n, _, _, hlen, hxl, hf⟩ := DataW.trod_struct hu hx
          have := flat_fs (cs := cs) (fun t ks h1 h2 => flat_open d t ks h1 h2) fs.toList 0 ks h (fun i f hi => by
            have hi' : fs[i]? = some f := by simpa using hi
            have hil : i < xs.length := by rw [hxl]; exact (Array.getElem?_eq_some_iff.1 hi').1
            exact ⟨n, xs[i], by rw [hf i f hi', List.getElem?_eq_getElem hil]⟩)
          rwa [List.drop_zero, List.take_of_length_le (by omega)] at this
      case array n e =>
        split at h
        · rename_i k1 i hk1 hi
          split at h
          · rename_i hs
            simp at h
            subst h
            have hc : P.cellsOf e = k1.length := by simp [Program.cellsOf, hi, hs]
            obtain ⟨xs, m, _, _, hlen, hxl, hf⟩ := DataW.trod_array hu hx
            have key : ∀ (r s : Nat), s + r ≤ n → okL (List.replicate r k1).flatten ((cs.drop (s * k1.length)).take (r * k1.length)) = true := by
              intro r
              induction r with
              | zero => intro s _; simp [okL]
              | succ r ih =>
                intro s hsr
                have hil : s < xs.length := by omega
                have h1 := flat_open d e k1 hk1 hc m _ _ (by rw [hf s (by omega), List.getElem?_eq_getElem hil])
                rw [hc] at h1
                have h2 := ih (s + 1) (by omega)
                rw [List.replicate_succ, List.flatten_cons, show (r + 1) * k1.length = k1.length + r * k1.length from by rw [Nat.succ_mul, Nat.add_comm], List.take_add, List.drop_drop]
                rw [show (s + 1) * k1.length = s * k1.length + k1.length from Nat.succ_mul _ _] at h2
                exact okL_append h1 h2
            have := key n 0 (by omega)
            rw [Nat.zero_mul, List.drop_zero] at this
            rwa [List.take_of_length_le (by rw [hlen, hsz]; simp)] at this
          · cases h
        · cases h

/-- a slice of held things (of whichever package), opened -/
theorem RdHs.open_ {t e : TypeId} {a : Option Addr} {len cap : Nat} {d : DataW H × List MemPlace} {fuel : Nat} (ht : P.underlying t = some (.slice e)) (hf : flatT P 7 e = some heldK) (hc : P.cellsOf e = 56)
    (h : DataW.trod enc P w 0 spare held fuel t [.slice a len cap] = some d) : ∃ l, RdHs (· < w.heap.size) w a len l ∧ len ≤ cap ∧ cap ≤ maxLen := by
  rcases Deep.open_slice ht h with ⟨hcs, _⟩ | ⟨x, l, c, m, n, D, Pl, hcs, _, hl, hm, hmm, _, hx⟩
  · simp at hcs
    obtain ⟨rfl, rfl, rfl⟩ := hcs
    exact ⟨[], ⟨rfl, by simp, by simp⟩, Nat.le_refl _, by simp⟩
  · simp at hcs
    obtain ⟨rfl, rfl, rfl⟩ := hcs
    have hle : len ≤ m := by rw [hmm]; split <;> omega
    rw [hc] at hx
    have key : ∀ i, i < len → ∃ y : Hd, y.ok ∧ w.cells? 0 (x.add (i * 56)) 56 = some y.vals := by
      intro i hi
      obtain ⟨cs, h1, h2⟩ := hx i (by omega)
      have hok := flat_open 7 e heldK hf (by rw [hc, len_heldK]) n cs _ h2
      cases cs with
      | nil => simp [heldK, okL] at hok
      | cons v r =>
        rw [heldK, okL, Bool.and_eq_true] at hok
        cases v <;> simp [okK] at hok
        exact ⟨⟨_, r⟩, hok, h1⟩
    haveI : Inhabited Hd := ⟨hd0⟩
    obtain ⟨F, hF⟩ := Deep.choose_lt (α := Hd) key
    refine ⟨(List.range len).map F, ⟨by simp, fun y hy => ?_, fun k y hy => ?_⟩, hl, hm⟩
    · simp at hy
      obtain ⟨i, hi, rfl⟩ := hy
      exact (hF i hi).1
    · rw [List.getElem?_map, Option.map_eq_some_iff] at hy
      obtain ⟨k', hk', rfl⟩ := hy
      have hlt : k < len := by
        rcases Nat.lt_or_ge k len with h | h
        · exact h
        · rw [List.getElem?_eq_none (by simpa using h)] at hk'; cases hk'
      rw [List.getElem?_range hlt] at hk'
      cases hk'
      obtain ⟨h1, h2⟩ := hF k hlt
      obtain ⟨_, hcl, hat⟩ := World.cells?_some h2
      have hcell : ∀ j v, (F k).vals[j]? = some v → w.cell? ((x.add (k * 56)).add j) = some v := fun j v hv => by
        have hj : j < 56 := by rw [← hcl]; exact (List.getElem?_eq_some_iff.1 hv).1
        rw [hat j hj, hv]
      have hr := row_of_cells hcell
      rw [hcl] at hr
      have h0 := hcell 0 (.bool (F k).is) rfl
      obtain ⟨b, off, spot⟩ := x
      have hs : spot = none := by
        have h00 := hF 0 (by omega)
        obtain ⟨_, hcl0, hat0⟩ := World.cells?_some h00.2
        have := World.cell?_spot ((hat0 0 (by omega)).trans (rfl : (F 0).vals[0]? = some (.bool (F 0).is)))
        simpa [Addr.add] using this
      subst hs
      rw [add_at] at hr h0
      exact ⟨b, off, rfl, World.block_lt_of_cell? w _ h0, World.block_lt_of_cell? w _ h0, hr.1, hr.2⟩
end
end Go.Proofs.Ytbdklfcgcmdgaaa
namespace Go.Proofs.Ytbdklfcgcmdgaaa
open Go.RowKit
set_option linter.unusedVariables false
set_option linter.unusedSimpArgs false

theorem weightsAll_mem {H : Type} {P : Program} {e : TypeId} {d : DataW H} : ∀ {l : List (DataW H)}, d ∈ l → ∀ n ∈ d.weights P e, n ∈ DataW.weightsAll P e l
  | x :: l, h, n, hn => by
    simp only [DataW.weightsAll, List.mem_append]
    rcases List.mem_cons.1 h with rfl | h
    · exact .inl hn
    · exact .inr (weightsAll_mem h n hn)
section
variable {H : Type} {enc : TypeId × Value → H} {w : World}

theorem cellsOf_row : Try.prog.cellsOf 54 = 57 := by kernel_rfl
set_option maxRecDepth 100000 in
/-- a row's cells, opened -/
theorem row_open {fuel : Nat} {cs : List Value} {d : DataW H × List MemPlace} (h : DataW.trod enc Try.prog w 0 (fun _ => true) true fuel 54 cs = some d) :
    ∃ (r : Rw) (tv : Value), r.ok ∧ cs = r.vals tv ∧ RowR (· < w.heap.size) w r tv ∧ ((d.1.weights Try.prog 54).all (· ≤ reachBytes) = true → r.t.length ≤ 140737488355328) := by
  obtain ⟨xs, n', _, rfl, hlen, hxl, hfl⟩ := DataW.trod_struct Try.underlying54 h
  rw [cellsOf_row] at hlen
  have g0 : DataW.trod enc Try.prog w 0 (fun _ => true) true n' 4 ((cs.drop 0).take (Try.prog.cellsOf 4)) = xs[0]? := hfl 0 _ rfl
  have g1 : DataW.trod enc Try.prog w 0 (fun _ => true) true n' 51 ((cs.drop 1).take (Try.prog.cellsOf 51)) = xs[1]? := hfl 1 _ rfl
  have g2 : DataW.trod enc Try.prog w 0 (fun _ => true) true n' 52 ((cs.drop 56).take (Try.prog.cellsOf 52)) = xs[2]? := hfl 2 _ rfl
  have hb : Try.prog.cellsOf 4 = 1 := by kernel_rfl
  have hc : Try.prog.cellsOf 51 = 55 := by kernel_rfl
  have hs : Try.prog.cellsOf 52 = 1 := by kernel_rfl
  rw [hb, List.drop_zero] at g0
  rw [hc] at g1
  rw [hs] at g2
  have l0 : xs[0]? = some (xs[0]'(by rw [hxl]; decide)) := List.getElem?_eq_getElem _
  have l1 : xs[1]? = some (xs[1]'(by rw [hxl]; decide)) := List.getElem?_eq_getElem _
  have l2 : xs[2]? = some (xs[2]'(by rw [hxl]; decide)) := List.getElem?_eq_getElem _
  rw [l0] at g0
  rw [l1] at g1
  rw [l2] at g2
  obtain ⟨b, hb1, _⟩ := DataW.trod_bool Try.underlying4 g0
  have hok := flat_open 7 51 cellK (by kernel_rfl) (by rw [hc, len_cellK]) n' _ _ g1
  have key : ∃ a len cap, (cs.drop 56).take 1 = [Value.slice a len cap] ∧ (∀ e s, xs[2]? = some (DataW.slice e s, (xs[2]'(by rw [hxl]; decide)).2) → len ≤ e.length) ∧ (a = none → len = 0) ∧ ((∃ e s, (xs[2]'(by rw [hxl]; decide)).1 = DataW.slice e s ∧ e.length = len) ∨ len = 0) := by
    rcases Deep.open_slice Try.underlying52 g2 with ⟨hcs, _⟩ | ⟨x, l, c, m, n, D, Pl, hcs, _, _, _, _, hx, _⟩
    · exact ⟨none, 0, 0, hcs, fun _ _ _ => Nat.zero_le _, fun _ => rfl, .inr rfl⟩
    · refine ⟨some x, l, c, hcs, fun e s he => ?_, fun h => by simp at h, .inl ⟨_, _, by rw [hx], by simp⟩⟩
      rw [l2, hx] at he
      simp at he
      rw [← he.1]; simp
  obtain ⟨a, len, cap, hsl, -, -, hd⟩ := key
  rw [hsl] at g2
  obtain ⟨l, hr, hmc, hcm⟩ := RdHs.open_ Try.underlying52 (by kernel_rfl) (by kernel_rfl) g2
  refine ⟨⟨b, (cs.drop 1).take 55, l⟩, .slice a len cap, ⟨hok, hr.2.1⟩, ?_, ⟨a, len, cap, rfl, hr, hmc, hcm⟩, fun hw => ?_⟩
  · have e1 : cs = cs.take 1 ++ ((cs.drop 1).take 55 ++ (cs.drop 56).take 1) := by
      rw [List.take_of_length_le (l := cs.drop 56) (by simp; omega)]
      conv => lhs; rw [← List.take_append_drop 1 cs, ← List.take_append_drop 55 (cs.drop 1), List.drop_drop]
    rw [hsl, hb1] at e1
    exact e1
  · have hl : l.length = len := hr.1
    rcases hd with ⟨e, s, h1, h2⟩ | h0
    · have hw' : (DataW.weightsEach Try.prog [4, 51, 52] (xs.map (·.1))).all (· ≤ reachBytes) = true := by
        have : (DataW.agg (xs.map (·.1))).weights Try.prog 54 = DataW.weightsEach Try.prog [4, 51, 52] (xs.map (·.1)) := by
          simp only [DataW.weights, Try.underlying54]
          rfl
        rw [← this]; exact hw
      have := sized_slice hw' (j := 2) (t := 52) rfl (show (xs.map (·.1))[2]? = some (DataW.slice e s) by rw [List.getElem?_map, l2, ← h1]; rfl) Try.underlying52
      have hby : 1 ≤ Try.prog.bytesOf 114 := of_decide_eq_true (by kernel_rfl)
      have h3 : (e.length + s.length) * 1 ≤ (e.length + s.length) * Try.prog.bytesOf 114 := Nat.mul_le_mul_left _ hby
      have := reachBytes_lt
      show l.length ≤ _
      omega
    · show l.length ≤ _
      omega

set_option maxRecDepth 100000 in
/-- a slice of rows, opened -/
theorem RdRs.open_ {fuel : Nat} {a : Option Addr} {len cap : Nat} {d : DataW H × List MemPlace} (h : DataW.trod enc Try.prog w 0 (fun _ => true) true fuel 32 [.slice a len cap] = some d) (hw : (d.1.weights Try.prog 32).all (· ≤ reachBytes) = true) :
    ∃ l, RdRs (· < w.heap.size) w a len l ∧ len ≤ cap ∧ cap ≤ maxLen ∧ szW l := by
  rcases Deep.open_slice Try.underlying32 h with ⟨hcs, _⟩ | ⟨x, l, c, m, n, D, Pl, hcs, _, hl, hm, hmm, hdd, hx⟩
  · simp at hcs
    obtain ⟨rfl, rfl, rfl⟩ := hcs
    exact ⟨[], ⟨rfl, by simp, by simp⟩, Nat.le_refl _, by simp, by simp [szW]⟩
  · simp at hcs
    obtain ⟨rfl, rfl, rfl⟩ := hcs
    simp at hmm
    rw [cellsOf_row] at hx
    have hw1 : (((List.range len).map D).length + ((List.range (m - len)).map fun j => D (len + j)).length) * Try.prog.bytesOf 54 ≤ reachBytes := by
      have := List.all_eq_true.1 hw ((((List.range len).map D).length + ((List.range (m - len)).map fun j => D (len + j)).length) * Try.prog.bytesOf 54) (by rw [hdd]; simp [DataW.weights, Try.underlying32])
      simpa using this
    have hw2 : ∀ i, i < len → ((D i).weights Try.prog 54).all (· ≤ reachBytes) = true := fun i hi => List.all_eq_true.2 fun q hq => by
      refine List.all_eq_true.1 hw q ?_
      rw [hdd]
      simp only [DataW.weights, Try.underlying32, List.mem_cons, List.mem_append]
      exact .inr (.inl (weightsAll_mem (d := D i) (by simp; exact ⟨i, hi, rfl⟩) q hq))
    have hby : 1 ≤ Try.prog.bytesOf 54 := of_decide_eq_true (by kernel_rfl)
    have key : ∀ i, i < len → ∃ y : Rw × Value, y.1.ok ∧ w.cells? 0 (x.add (i * 57)) 57 = some (y.1.vals y.2) ∧ RowR (· < w.heap.size) w y.1 y.2 ∧ y.1.t.length ≤ 140737488355328 := by
      intro i hi
      obtain ⟨cs, h1, h2⟩ := hx i (by omega)
      obtain ⟨r, tv, q1, rfl, q3, q4⟩ := row_open h2
      exact ⟨(r, tv), q1, h1, q3, q4 (hw2 i hi)⟩
    haveI : Inhabited (Rw × Value) := ⟨(rw0, .slice none 0 0)⟩
    obtain ⟨F, hF⟩ := Deep.choose_lt (α := Rw × Value) key
    refine ⟨(List.range len).map (fun i => (F i).1), ⟨by simp, fun y hy => ?_, fun k y hy => ?_⟩, hl, hm, ?_, fun y hy => ?_⟩
    · simp at hy
      obtain ⟨i, hi, rfl⟩ := hy
      exact (hF i hi).1
    · rw [List.getElem?_map, Option.map_eq_some_iff] at hy
      obtain ⟨k', hk', rfl⟩ := hy
      have hlt : k < len := by
        rcases Nat.lt_or_ge k len with h | h
        · exact h
        · rw [List.getElem?_eq_none (by simpa using h)] at hk'; cases hk'
      rw [List.getElem?_range hlt] at hk'
      cases hk'
      obtain ⟨h1, h2, ⟨x1, m1, c1, hv1, h4, h5, h6⟩, -⟩ := hF k hlt
      obtain ⟨_, hcl, hat⟩ := World.cells?_some h2
      have hcell : ∀ j v, ((F k).1.vals (F k).2)[j]? = some v → w.cell? ((x.add (k * 57)).add j) = some v := fun j v hv => by
        have hj : j < 57 := by rw [← hcl]; exact (List.getElem?_eq_some_iff.1 hv).1
        rw [hat j hj, hv]
      have hr := row_of_cells hcell
      rw [hcl] at hr
      have h0 := hcell 0 (.bool (F k).1.is) rfl
      obtain ⟨b, off, spot⟩ := x
      have hs : spot = none := by
        have h00 := hF 0 (by omega)
        obtain ⟨_, hcl0, hat0⟩ := World.cells?_some h00.2.1
        have := World.cell?_spot ((hat0 0 (by omega)).trans (rfl : ((F 0).1.vals (F 0).2)[0]? = some (.bool (F 0).1.is)))
        simpa [Addr.add] using this
      subst hs
      rw [add_at] at hr h0
      rw [hv1] at hr
      exact ⟨b, off, x1, m1, c1, rfl, World.block_lt_of_cell? w _ h0, World.block_lt_of_cell? w _ h0, hr.1, hr.2, h4, h5, h6⟩
    · simp at hw1 ⊢
      have h3 : (len + (m - len)) * 1 ≤ (len + (m - len)) * Try.prog.bytesOf 54 := Nat.mul_le_mul_left _ hby
      have := reachBytes_lt
      omega
    · simp at hy
      obtain ⟨i, hi, rfl⟩ := hy
      exact (hF i hi).2.2.2
set_option maxRecDepth 100000 in
/-- a word, opened -/
theorem word_open {v : Value} {d : DataW H} {pl : List MemPlace} (h : DataW.Trod enc Try.prog w 0 (fun _ => true) true 34 v d pl) (hv : ∃ cs, v = .agg cs ∧ cs.size = Try.prog.cellsOf 34) (hw : (d.weights Try.prog 34).all (· ≤ reachBytes) = true) :
    ∃ a len cap l, v = .agg #[.slice a len cap] ∧ RdRs (· < w.heap.size) w a len l ∧ len ≤ cap ∧ cap ≤ maxLen ∧ szW l := by
  obtain ⟨cs, rfl, hsz⟩ := hv
  obtain ⟨fuel, hf⟩ := h
  obtain ⟨xs, n', _, hx, hlen, hxl, hfl⟩ := DataW.trod_struct Try.underlying34 hf
  have hc : Try.prog.cellsOf 34 = 1 := by kernel_rfl
  rw [hc] at hsz
  have g0 : DataW.trod enc Try.prog w 0 (fun _ => true) true n' 32 ((cs.toList.drop 0).take (Try.prog.cellsOf 32)) = xs[0]? := hfl 0 _ rfl
  have hs : Try.prog.cellsOf 32 = 1 := by kernel_rfl
  have l0 : xs[0]? = some (xs[0]'(by rw [hxl]; decide)) := List.getElem?_eq_getElem _
  rw [hs, List.drop_zero, List.take_of_length_le (by simp [hsz])] at g0
  rw [l0] at g0
  obtain ⟨a, len, cap, hcs⟩ : ∃ a len cap, cs.toList = [Value.slice a len cap] := by
    rcases Deep.open_slice Try.underlying32 g0 with ⟨hcs, _⟩ | ⟨x', l', c', _, _, _, _, hcs, _⟩
    · exact ⟨_, _, _, hcs⟩
    · exact ⟨_, _, _, hcs⟩
  rw [hcs] at g0
  have hd : d = .agg (xs.map (·.1)) := by injection hx
  have hw2 : ((xs[0]'(by rw [hxl]; decide)).1.weights Try.prog 32).all (· ≤ reachBytes) = true := by
    refine List.all_eq_true.2 fun q hq => List.all_eq_true.1 hw q ?_
    have : (DataW.agg (xs.map (·.1))).weights Try.prog 34 = DataW.weightsEach Try.prog [32] (xs.map (·.1)) := by
      simp only [DataW.weights, Try.underlying34]
      rfl
    rw [hd, this]
    exact DataW.weights_mem_each (j := 0) rfl (by rw [List.getElem?_map, l0]; rfl) q hq
  obtain ⟨l, h1, h2, h3, h4⟩ := RdRs.open_ g0 hw2
  refine ⟨a, len, cap, l, ?_, h1, h2, h3, h4⟩
  congr 1
  apply Array.ext'
  rw [hcs]
set_option maxRecDepth 100000 in
/-- a row that came in, opened -/
theorem row_arg {v : Value} {d : DataW H} {pl : List MemPlace} (h : DataW.Trod enc Try.prog w 0 (fun _ => true) true 54 v d pl) (hv : ∃ cs, v = .agg cs ∧ cs.size = Try.prog.cellsOf 54) :
    ∃ (r : Rw) (tv : Value), r.ok ∧ v = .agg (r.vals tv).toArray ∧ RowR (· < w.heap.size) w r tv := by
  obtain ⟨cs, rfl, hsz⟩ := hv
  obtain ⟨fuel, hf⟩ := h
  obtain ⟨r, tv, h1, h2, h3, -⟩ := row_open hf
  refine ⟨r, tv, h1, ?_, h3⟩
  congr 1
  apply Array.ext'
  simpa [Value.cells] using h2
end
end Go.Proofs.Ytbdklfcgcmdgaaa
