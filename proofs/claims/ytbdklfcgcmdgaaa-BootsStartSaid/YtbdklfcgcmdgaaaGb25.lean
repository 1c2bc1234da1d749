/-
  sennitlaw14.Light. What is faulty: its acts, by value and in memory. Plain lemmas. Arguments opened: flat values, slices of held things, rows and words.
-/
import Derived.Test.YtbdklfcgcmdgaaaGb24
import Derived.Test.YtbdklfcgcmdgaaaGb17
import Derived.Test.YtbdklfcgcmdgaaaGb02
import Derived.OpenShut
import Derived.Deep.Fields
namespace Go.Proofs.Ytbdklfcgcmdgaaa
open Go.RowKit
set_option linter.unusedVariables false
set_option linter.unusedSimpArgs false

def LightPost (len : Nat) (l : List Rw) (w : World) (e : Ending) (w' : World) : Prop := (∃ b, e = .returned (.bool b) ∧ (b = true → len ≤ 200 ∧ smallW l)) ∧ Below w.heap.size w w'
set_option maxRecDepth 100000 in
set_option maxHeartbeats 2000000 in
theorem light_any (S : Nat → Prop) (a : Option Addr) (len cap : Nat) (l : List Rw) (w : World) (hrd : RdRs S w a len l) (hm1 : len ≤ cap) (hm2 : cap ≤ maxLen) (hsz : szW l) :
    Calls Try.prog 29 #[.slice a len cap] w (LightPost len l w) := by
  by_cases hl : len ≤ 200
  · have hl' : (len : Int) ≤ 200 := by omega
    have F : Hid (∀ w', Below w.heap.size w w' → Calls Try.prog 47 #[.agg #[.slice a len cap]] w' (GreatPost l w')) := Lib.hid fun w' hb => great_any S a len cap l w' (hrd.keep hb.size (fun b _ h => hb.block b h)) hm1 hm2 hsz
    have HB := Lib.hid (Below.refl w.heap.size w)
    clear hrd hsz
    go_enter Try.func29, Try.ntmps29
    go_wp2_with fail
    (with_reducible refine (F.out w HB.out).mono ?_)
    rintro e w1 ⟨⟨b, rfl, hb⟩, hB⟩
    cases b with
    | true =>
      go_wp2_with fail
      go_ret
      exact ⟨⟨false, rfl, fun h => by cases h⟩, hB⟩
    | false =>
      go_wp2_with fail
      go_ret
      exact ⟨⟨true, rfl, fun _ => ⟨hl, by simpa using hb⟩⟩, hB⟩
  · have hl' : ¬ (len : Int) ≤ 200 := by omega
    have HB := Lib.hid (Below.refl w.heap.size w)
    clear hrd hsz
    go_enter Try.func29, Try.ntmps29
    go_wp2_with fail
    go_ret
    exact ⟨⟨false, rfl, fun h => by cases h⟩, HB.out⟩
end Go.Proofs.Ytbdklfcgcmdgaaa
namespace Go.Proofs.Ytbdklfcgcmdgaaa
open Go.RowKit
set_option linter.unusedVariables false
set_option linter.unusedSimpArgs false

def ActM.vals (x : ActM) (tv : Value) : List Value := .int .u8 x.kind :: .int .u8 x.s :: x.row.vals tv
def ActM.ok (x : ActM) : Prop := (0 ≤ x.kind ∧ x.kind ≤ 255) ∧ (0 ≤ x.s ∧ x.s ≤ 255) ∧ x.row.ok
theorem ActM.len {x : ActM} (h : x.ok) (tv : Value) : (x.vals tv).length = 59 := by simp [ActM.vals, Rw.len h.2.2 tv]
/-- acts, read -/
def RdAs (S : Nat → Prop) (w : World) (a : Option Addr) (len : Nat) (l : List ActM) : Prop :=
  l.length = len ∧ (∀ x ∈ l, x.ok) ∧ ∀ (k : Nat) (x : ActM), l[k]? = some x → ∃ b off tv, a = some ⟨b, off, none⟩ ∧ S b ∧ b < w.heap.size ∧ hasRow w ⟨b, off + k * 59, none⟩ 59 = true ∧ rowOf w ⟨b, off + k * 59, none⟩ 59 = x.vals tv ∧ RowR S w x.row tv
theorem RdAs.keep {S : Nat → Prop} {w w' : World} {a : Option Addr} {len : Nat} {l : List ActM} (h : RdAs S w a len l) (hs : w.heap.size ≤ w'.heap.size) (hk : ∀ b, S b → b < w.heap.size → w'.heap[b]? = w.heap[b]?) : RdAs S w' a len l :=
  ⟨h.1, h.2.1, fun k x hx => by
    obtain ⟨b, off, tv, h1, h2, h3, h4, h5, h6⟩ := h.2.2 k x hx
    have hr := row_block (w := w) (w' := w') (p := ⟨b, off + k * 59, none⟩) (n := 59) (hk b h2 h3)
    exact ⟨b, off, tv, h1, h2, by omega, hr.1.trans h4, hr.2.trans h5, h6.keep hs hk⟩⟩
theorem RdAs.below {S : Nat → Prop} {w w' : World} {a : Option Addr} {len : Nat} {l : List ActM} (h : RdAs S w a len l) (hb : Below w.heap.size w w') : RdAs S w' a len l := h.keep hb.size fun b _ hl => hb.block b hl
theorem RdAs.mono {S S' : Nat → Prop} {w : World} {a : Option Addr} {len : Nat} {l : List ActM} (h : RdAs S w a len l) (hs : ∀ b, b < w.heap.size → S b → S' b) : RdAs S' w a len l :=
  ⟨h.1, h.2.1, fun k x hx => by
    obtain ⟨b, off, tv, h1, h2, h3, h4, h5, h6⟩ := h.2.2 k x hx
    exact ⟨b, off, tv, h1, hs b h3 h2, h3, h4, h5, h6.mono hs⟩⟩
theorem rdAs_nil (S : Nat → Prop) (w : World) : RdAs S w none 0 [] := ⟨rfl, by simp, by simp⟩
def FltM.vals (F : FltM) (v : Value) : List Value := [.bool F.link, .int .u8 F.at_, .int .u8 F.which, v]
end Go.Proofs.Ytbdklfcgcmdgaaa
namespace Go.Proofs.Ytbdklfcgcmdgaaa
open Go.RowKit Go.ChangeShapes Go.WideShapes
set_option linter.unusedVariables false
set_option linter.unusedSimpArgs false

section
variable {H : Type} {enc : TypeId × Value → H} {P : Program} {w : World} {base : Nat} {spare : Nat → Bool} {held : Bool}
theorem flat_fs {d : Nat} {cs : List Value} (IH : ∀ t ks, flatT P d t = some ks → P.cellsOf t = ks.length → ∀ fuel c x, DataW.trod enc P w base spare held fuel t c = some x → okL ks c = true) : ∀ (fs : List Field) (o : Nat) (ks : List Kd), flatFs P (flatT P d) o fs = some ks →
    (∀ (i : Nat) (f : Field), fs[i]? = some f → ∃ n y, DataW.trod enc P w base spare held n f.type ((cs.drop f.offset).take (P.cellsOf f.type)) = some y) → okL ks ((cs.drop o).take ks.length) = true
  | [], o, ks, h, _ => by simp [flatFs] at h; subst h; simp [okL]
  | f :: fs, o, ks, h, hf => by
    unfold flatFs at h
    split at h
    · cases h
    · rename_i hno
      simp only [not_or, ne_eq, Decidable.not_not] at hno
      obtain ⟨hn, ho⟩ := hno
      split at h
      · rename_i k1 i hk1 hi
        split at h
        · rename_i hs
          rw [Option.map_eq_some_iff] at h
          obtain ⟨k2, hk2, rfl⟩ := h
          have hc : P.cellsOf f.type = k1.length := by simp [Program.cellsOf, hi, hs]
          obtain ⟨n, y, hy⟩ := hf 0 f rfl
          have h1 := IH f.type k1 hk1 hc n _ y hy
          rw [hc, ho] at h1
          have h2 := flat_fs IH fs (o + k1.length) k2 hk2 (fun i f hi => hf (i + 1) f (by simpa using hi))
          rw [List.length_append, List.take_add, List.drop_drop]
          exact okL_append h1 h2
        · cases h
      · cases h
theorem flat_open : ∀ (d : Nat) (t : TypeId) (ks : List Kd), flatT P d t = some ks → P.cellsOf t = ks.length → ∀ (fuel : Nat) (cs : List Value) (x : DataW H × List MemPlace), DataW.trod enc P w base spare held fuel t cs = some x → okL ks cs = true
  | 0, t, ks, h, _, _, _, _, _ => by simp [flatT] at h
  | d + 1, t, ks, h, hsz, fuel, cs, x, hx => by
    unfold flatT at h
    cases hu : P.underlying t with
    | none => simp [hu] at h
    | some u =>
      rw [hu] at h
      cases u <;> simp only [reduceCtorEq] at h
      case bool =>
        simp at h
        subst h
        obtain ⟨b, rfl, _⟩ := DataW.trod_bool hu hx
        simp [okL, okK]
      case int k =>
        simp at h
        subst h
        obtain ⟨n, rfl, _, hw⟩ := DataW.trod_int hu hx
        simp [okL, okK, hw]
      case struct fs =>
        split at h
        · cases h
        · obtain ⟨xs, n, _, _, hlen, hxl, hf⟩ := DataW.trod_struct hu hx
          have := flat_fs (cs := cs) (fun t ks h1 h2 => flat_open d t ks h1 h2) fs.toList 0 ks h (fun i f hi => by
            have hi' : fs[i]? = some f := by simpa using hi
            have hil : i < xs.length := by rw [hxl]; exact (Array.getElem?_eq_some_iff.1 hi').1
            exact ⟨n, xs[i], by rw [hf i f hi', List.getElem?_eq_getElem hil]⟩)
          rwa [List.drop_zero, List.take_of_length_le (by omega)] at this
      case array n e =>
        split at h
        · rename_i k1 i hk1 hi
          split at h
          · rename_i hs
            simp at h
            subst h
            have hc : P.cellsOf e = k1.length := by simp [Program.cellsOf, hi, hs]
            obtain ⟨xs, m, _, _, hlen, hxl, hf⟩ := DataW.trod_array hu hx
            have key : ∀ (r s : Nat), s + r ≤ n → okL (List.replicate r k1).flatten ((cs.drop (s * k1.length)).take (r * k1.length)) = true := by
              intro r
              induction r with
              | zero => intro s _; simp [okL]
              | succ r ih =>
                intro s hsr
                have hil : s < xs.length := by omega
                have h1 := flat_open d e k1 hk1 hc m _ _ (by rw [hf s (by omega), List.getElem?_eq_getElem hil])
                rw [hc] at h1
                have h2 := ih (s + 1) (by omega)
                rw [List.replicate_succ, List.flatten_cons, show (r + 1) * k1.length = k1.length + r * k1.length from by rw [Nat.succ_mul, Nat.add_comm], List.take_add, List.drop_drop]
                rw [show (s + 1) * k1.length = s * k1.length + k1.length from Nat.succ_mul _ _] at h2
                exact okL_append h1 h2
            have := key n 0 (by omega)
            rw [Nat.zero_mul, List.drop_zero] at this
            rwa [List.take_of_length_le (by rw [hlen, hsz]; simp)] at this
          · cases h
        · cases h

/-- a slice of held things (of whichever package), opened -/
theorem RdHs.open_ {t e : TypeId} {a : Option Addr} {len cap : Nat} {d : DataW H × List MemPlace} {fuel : Nat} (ht : P.underlying t = some (.slice e)) (hf : flatT P 7 e = some heldK) (hc : P.cellsOf e = 56)
    (h : DataW.trod enc P w 0 spare held fuel t [.slice a len cap] = some d) : ∃ l, RdHs (· < w.heap.size) w a len l ∧ len ≤ cap ∧ cap ≤ maxLen := by
  rcases Deep.open_slice ht h with ⟨hcs, _⟩ | ⟨x, l, c, m, n, D, Pl, hcs, _, hl, hm, hmm, _, hx⟩
  · simp at hcs
    obtain ⟨rfl, rfl, rfl⟩ := hcs
    exact ⟨[], ⟨rfl, by simp, by simp⟩, Nat.le_refl _, by simp⟩
  · simp at hcs
    obtain ⟨rfl, rfl, rfl⟩ := hcs
    have hle : len ≤ m := by rw [hmm]; split <;> omega
    rw [hc] at hx
    have key : ∀ i, i < len → ∃ y : Hd, y.ok ∧ w.cells? 0 (x.add (i * 56)) 56 = some y.vals := by
      intro i hi
      obtain ⟨cs, h1, h2⟩ := hx i (by omega)
      have hok := flat_open 7 e heldK hf (by rw [hc, len_heldK]) n cs _ h2
      cases cs with
      | nil => simp [heldK, okL] at hok
      | cons v r =>
        rw [heldK, okL, Bool.and_eq_true] at hok
        cases v <;> simp [okK] at hok
        exact ⟨⟨_, r⟩, hok, h1⟩
    haveI : Inhabited Hd := ⟨hd0⟩
    obtain ⟨F, hF⟩ := Deep.choose_lt (α := Hd) key
    refine ⟨(List.range len).map F, ⟨by simp, fun y hy => ?_, fun k y hy => ?_⟩, hl, hm⟩
    · simp at hy
      obtain ⟨i, hi, rfl⟩ := hy
      exact (hF i hi).1
    · rw [List.getElem?_map, Option.map_eq_some_iff] at hy
      obtain ⟨k', hk', rfl⟩ := hy
      have hlt : k < len := by
        rcases Nat.lt_or_ge k len with h | h
        · exact h
        · rw [List.getElem?_eq_none (by simpa using h)] at hk'; cases hk'
      rw [List.getElem?_range hlt] at hk'
      cases hk'
      obtain ⟨h1, h2⟩ := hF k hlt
      obtain ⟨_, hcl, hat⟩ := World.cells?_some h2
      have hcell : ∀ j v, (F k).vals[j]? = some v → w.cell? ((x.add (k * 56)).add j) = some v := fun j v hv => by
        have hj : j < 56 := by rw [← hcl]; exact (List.getElem?_eq_some_iff.1 hv).1
        rw [hat j hj, hv]
      have hr := row_of_cells hcell
      rw [hcl] at hr
      have h0 := hcell 0 (.bool (F k).is) rfl
      obtain ⟨b, off, spot⟩ := x
      have hs : spot = none := by
        have h00 := hF 0 (by omega)
        obtain ⟨_, hcl0, hat0⟩ := World.cells?_some h00.2
        have := World.cell?_spot ((hat0 0 (by omega)).trans (rfl : (F 0).vals[0]? = some (.bool (F 0).is)))
        simpa [Addr.add] using this
      subst hs
      rw [add_at] at hr h0
      exact ⟨b, off, rfl, World.block_lt_of_cell? w _ h0, World.block_lt_of_cell? w _ h0, hr.1, hr.2⟩
end
end Go.Proofs.Ytbdklfcgcmdgaaa
