/-
  Arguments opened: flat values, slices of held things, rows and words. Slices of api.Cell; small arrays by value; opened.
-/
import Derived.Test.YtdilbjikeilhbaaGreatDoorGe02
import Derived.OpenShut
import Derived.Deep.Fields
import Derived.WideShapes
namespace Go.Proofs.YtdilbjikeilhbaaGreatDoor
open Go.RowKit Go.ChangeShapes Go.WideShapes
set_option linter.unusedVariables false
set_option linter.unusedSimpArgs false

section
variable {H : Type} {enc : TypeId × Value → H} {P : Program} {w : World} {base : Nat} {spare : Nat → Bool} {held : Bool}
theorem flat_fs {d : Nat} {cs : List Value} (IH : ∀ t ks, flatT P d t = some ks → P.cellsOf t = ks.length → ∀ fuel c x, DataW.trod enc P w base spare held fuel t c = some x → okL ks c = true) : ∀ (fs : List Field) (o : Nat) (ks : List Kd), flatFs P (flatT P d) o fs = some ks →
    (∀ (i : Nat) (f : Field), fs[i]? = some f → ∃ n y, DataW.trod enc P w base spare held n f.type ((cs.drop f.offset).take (P.cellsOf f.type)) = some y) → okL ks ((cs.drop o).take ks.length) = true
  | [], o, ks, h, _ => by simp [flatFs] at h; subst h; simp [okL]
  | f :: fs, o, ks, h, hf => by
    unfold flatFs at h
    split at h
    · cases h
    · rename_i hno
      simp only [not_or, ne_eq, Decidable.not_not] at hno
      obtain ⟨hn, ho⟩ := hno
      split at h
      · rename_i k1 i hk1 hi
        split at h
        · rename_i hs
          rw [Option.map_eq_some_iff] at h
          obtain ⟨k2, hk2, rfl⟩ := h
          have hc : P.cellsOf f.type = k1.length := by simp [Program.cellsOf, hi, hs]
          obtain ⟨n, y, hy⟩ := hf 0 f rfl
          have h1 := IH f.type k1 hk1 hc n _ y hy
          rw [hc, ho] at h1
          have h2 := flat_fs IH fs (o + k1.length) k2 hk2 (fun i f hi => hf (i + 1) f (by simpa using hi))
          rw [List.length_append, List.take_add, List.drop_drop]
          exact okL_append h1 h2
        · cases h
      · cases h
theorem flat_open : ∀ (d : Nat) (t : TypeId) (ks : List Kd), flatT P d t = some ks → P.cellsOf t = ks.length → ∀ (fuel : Nat) (cs : List Value) (x : DataW H × List MemPlace), DataW.trod enc P w base spare held fuel t cs = some x → okL ks cs = true
  | 0, t, ks, h, _, _, _, _, _ => by simp [flatT] at h
  | d + 1, t, ks, h, hsz, fuel, cs, x, hx => by
    unfold flatT at h
    cases hu : P.underlying t with
    | none => simp [hu] at h
    | some u =>
      rw [hu] at h
      cases u <;> simp only [reduceCtorEq] at h
      case bool =>
        simp at h
        subst h
        obtain ⟨b, rfl, _⟩ := DataW.trod_bool hu hx
        simp [okL, okK]
      case int k =>
        simp at h
        subst h
        obtain ⟨n, rfl, _, hw⟩ := DataW.trod_int hu hx
        simp [okL, okK, hw]
      case struct fs =>
        split at h
        · cases h
        · obtain ⟨xs, n, _, _, hlen, hxl, hf⟩ := DataW.trod_struct hu hx
          have := flat_fs (cs := cs) (fun t ks h1 h2 => flat_open d t ks h1 h2) fs.toList 0 ks h (fun i f hi => by
            have hi' : fs[i]? = some f := by simpa using hi
            have hil : i < xs.length := by rw [hxl]; exact (Array.getElem?_eq_some_iff.1 hi').1
            exact ⟨n, xs[i], by rw [hf i f hi', List.getElem?_eq_getElem hil]⟩)
          rwa [List.drop_zero, List.take_of_length_le (by omega)] at this
      case array n e =>
        split at h
        · rename_i k1 i hk1 hi
          split at h
          · rename_i hs
            simp at h
            subst h
            have hc : P.cellsOf e = k1.length := by simp [Program.cellsOf, hi, hs]
            obtain ⟨xs, m, _, _, hlen, hxl, hf⟩ := DataW.trod_array hu hx
            have key : ∀ (r s : Nat), s + r ≤ n → okL (List.replicate r k1).flatten ((cs.drop (s * k1.length)).take (r * k1.length)) = true := by
              intro r
              induction r with
              | zero => intro s _; simp [okL]
              | succ r ih =>
                intro s hsr
                have hil : s < xs.length := by omega
                have h1 := flat_open d e k1 hk1 hc m _ _ (by rw [hf s (by omega), List.getElem?_eq_getElem hil])
                rw [hc] at h1
                have h2 := ih (s + 1) (by omega)
                rw [List.replicate_succ, List.flatten_cons, show (r + 1) * k1.length = k1.length + r * k1.length from by rw [Nat.succ_mul, Nat.add_comm], List.take_add, List.drop_drop]
                rw [show (s + 1) * k1.length = s * k1.length + k1.length from Nat.succ_mul _ _] at h2
                exact okL_append h1 h2
            have := key n 0 (by omega)
            rw [Nat.zero_mul, List.drop_zero] at this
            rwa [List.take_of_length_le (by rw [hlen, hsz]; simp)] at this
          · cases h
        · cases h

end
end Go.Proofs.YtdilbjikeilhbaaGreatDoor
namespace Go.Proofs.YtdilbjikeilhbaaGreatDoor
open Go.RowKit Go.WideShapes
set_option linter.unusedVariables false
set_option linter.unusedSimpArgs false

def RdCs (S : Nat → Prop) (w : World) (a : Option Addr) (len : Nat) (l : List (List Value)) : Prop :=
  l.length = len ∧ (∀ c ∈ l, okL cellK c = true) ∧ ∀ (k : Nat) (c : List Value), l[k]? = some c → ∃ b off, a = some ⟨b, off, none⟩ ∧ S b ∧ b < w.heap.size ∧ hasRow w ⟨b, off + k * 55, none⟩ 55 = true ∧ rowOf w ⟨b, off + k * 55, none⟩ 55 = c
theorem RdCs.keep {S : Nat → Prop} {w w' : World} {a : Option Addr} {len : Nat} {l : List (List Value)} (h : RdCs S w a len l) (hs : w.heap.size ≤ w'.heap.size) (hk : ∀ b, S b → b < w.heap.size → w'.heap[b]? = w.heap[b]?) : RdCs S w' a len l :=
  ⟨h.1, h.2.1, fun k x hx => by
    obtain ⟨b, off, e, hS, hb, h1, h2⟩ := h.2.2 k x hx
    have := row_block (n := 55) (p := ⟨b, off + k * 55, none⟩) (hk b hS hb)
    exact ⟨b, off, e, hS, by omega, this.1.trans h1, this.2.trans h2⟩⟩
theorem RdCs.below {S : Nat → Prop} {w w' : World} {B : Nat} {a : Option Addr} {len : Nat} {l : List (List Value)} (h : RdCs S w a len l) (hb : Below B w w') (hB : ∀ b, S b → b < w.heap.size → b < B) : RdCs S w' a len l :=
  h.keep hb.size fun b hS hlt => hb.block b (hB b hS hlt)
theorem RdCs.at_ {S : Nat → Prop} {w : World} {a : Option Addr} {len : Nat} {l : List (List Value)} (h : RdCs S w a len l) (k : Nat) (hk : k < len) :
    ∃ b off c, a = some ⟨b, off, none⟩ ∧ S b ∧ b < w.heap.size ∧ l[k]? = some c ∧ okL cellK c = true ∧ c.length = 55 ∧ c.all cell1 = true ∧ hasRow w ⟨b, off + k * 55, none⟩ 55 = true ∧ rowOf w ⟨b, off + k * 55, none⟩ 55 = c := by
  obtain ⟨h1, h2, h3⟩ := h
  have hv : l[k]? = some (l[k]'(by omega)) := List.getElem?_eq_getElem _
  obtain ⟨b, off, e, hS, hb, hr1, hr2⟩ := h3 k _ hv
  have ho := h2 _ (List.mem_of_getElem? hv)
  exact ⟨b, off, _, e, hS, hb, hv, ho, (okL_len ho).trans len_cellK, okL_cell1 ho, hr1, hr2⟩

section
variable {H : Type} {enc : TypeId × Value → H} {P : Program} {w : World} {spare : Nat → Bool} {held : Bool}
theorem okWide_array {r : Reach} {base : Nat} {t e : TypeId} {n : Nat} {v : Value} (ht : P.underlying t = some (.array n e)) (h : Value.okWide P w r base t v) : ∃ cs, v = .agg cs ∧ cs.size = P.cellsOf t := by
  simp only [Value.okWide, ht] at h
  obtain ⟨cs, h1, h2, _⟩ := h
  exact ⟨cs, h1, h2⟩
theorem arr_open {t e : TypeId} {n : Nat} {ks : List Kd} {v : Value} {d : DataW H} {pl : List MemPlace} (ht : P.underlying t = some (.array n e)) (hf : flatT P 7 t = some ks) (hc : P.cellsOf t = ks.length) (hv : ∃ cs, v = .agg cs ∧ cs.size = P.cellsOf t)
    (h : DataW.Trod enc P w 0 spare held t v d pl) : ∃ l, v = .agg l.toArray ∧ okL ks l = true := by
  obtain ⟨cs, rfl, hs⟩ := hv
  obtain ⟨fuel, hfu⟩ := h
  exact ⟨cs.toList, by simp, flat_open 7 t ks hf hc fuel _ _ hfu⟩
end
end Go.Proofs.YtdilbjikeilhbaaGreatDoor
