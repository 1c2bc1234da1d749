
/-
  Configs (chapter 4): New.
-/
import Derived.Laws.EntriesVeiled
import Derived.Test.YtopakilglnpinaaGreatDoorBn17
namespace Go.Proofs.YtopakilglnpinaaGreatDoor
open Go.RowKit
set_option linter.unusedVariables false
set_option linter.unusedSimpArgs false

/-- New says no: the first rule's error -/
def NewNo (c : Cfg) (w : World) (e : Ending) (w' : World) : Prop := e = .returned (.tuple #[.pointer none, .int .i64 (firstE (cfE c))]) ∧ Below w.heap.size w w'
theorem len_cfE (c : Cfg) : (cfE c).length = 10 := rfl
theorem firstE_pre {l : List Int} : ∀ {k : Nat} {e : Int}, (∀ j, j < k → l[j]? = some 0) → l[k]? = some e → e ≠ 0 → firstE l = e := by
  induction l with
  | nil => intro k e _ h _; simp at h
  | cons x r ih =>
    intro k e hp hk he
    cases k with
    | zero =>
      simp at hk
      subst hk
      simp [firstE, he]
    | succ k =>
      have h0 := hp 0 (by omega)
      simp at h0
      subst h0
      simp [firstE]
      exact ih (k := k) (fun j hj => by have := hp (j + 1) (by omega); simpa using this) (by simpa using hk) he
theorem rule_enters (k f : Nat) (hf : ruleFs[k]? = some f) : ∀ args w, (callFunc f args).run Tryz.prog w = .ok (.enter f args) w :=
  match k, hf with
  | 0, hf => by cases hf; exact enters_of Tryz.func42 (by kernel_rfl) rfl
  | 1, hf => by cases hf; exact enters_of Tryz.func44 (by kernel_rfl) rfl
  | 2, hf => by cases hf; exact enters_of Tryz.func45 (by kernel_rfl) rfl
  | 3, hf => by cases hf; exact enters_of Tryz.func50 (by kernel_rfl) rfl
  | 4, hf => by cases hf; exact enters_of Tryz.func51 (by kernel_rfl) rfl
  | 5, hf => by cases hf; exact enters_of Tryz.func53 (by kernel_rfl) rfl
  | 6, hf => by cases hf; exact enters_of Tryz.func54 (by kernel_rfl) rfl
  | 7, hf => by cases hf; exact enters_of Tryz.func57 (by kernel_rfl) rfl
  | 8, hf => by cases hf; exact enters_of Tryz.func58 (by kernel_rfl) rfl
  | 9, hf => by cases hf; exact enters_of Tryz.func59 (by kernel_rfl) rfl
  | n + 10, hf => by simp [ruleFs] at hf
set_option maxRecDepth 100000 in
set_option maxHeartbeats 2000000 in
theorem newNo_any (S : Nat → Prop) (A : CfA) (c : Cfg) (w : World) (h : CfR S w A c) (hsg : SgW w) (hst : stOk c) (hno : firstE (cfE c) ≠ 0) : Calls Tryz.prog 22 #[.agg (cfV A c).toArray] w (NewNo c w) := by
  obtain ⟨cv, hcv⟩ : ∃ cv, cv = cfV A c := ⟨_, rfl⟩
  have HRU : Hid (∀ (k f : Nat) (e : Int), ruleFs[k]? = some f → (cfE c)[k]? = some e → (∀ j, j < k → (cfE c)[j]? = some 0) → ∀ w', Below w.heap.size w w' → Calls Tryz.prog f #[.agg cv.toArray] w' (RuS e w')) := Lib.hid fun k f e hf he hpre w' hb => by
    rw [hcv]
    exact rule_any S A c w' (h.below hb) (hsg.below hb) hst k f e hf he hpre
  have HL := Lib.hid fun w => rules_any w
  have HCV := Lib.hid hcv
  have HNO := Lib.hid hno
  rw [← hcv]
  clear hcv h hsg hst hno
  go_enter Tryz.func22, Tryz.ntmps22
  go_upto_region 1 with fail
  have HB0 : Hid (Below w.heap.size w (w.alloc (.cells cv.toArray 25)) ∧ Blk (w.alloc (.cells cv.toArray 25)) w.heap.size 25 cv.toArray) := Lib.hid ⟨(Below.refl _ _).alloc (Nat.le_refl _) _, Blk.new _ _ _⟩
  generalize w.alloc (.cells cv.toArray 25) = w0 at HB0 ⊢
  go_wp2_with fail
  (with_reducible refine (HL.out _).mono ?_)
  rintro e w1 ⟨rfl, hk1, hb1⟩
  have HK1 := Lib.hid (And.intro hk1 (And.intro (HB0.out.1.trans (hb1.mono HB0.out.1.size)) (HB0.out.2.below hb1 HB0.out.2.lt)))
  clear hk1 hb1
  go_wp2_with fail
  have hRK := HK1
  go_loopw [12] (fun i wr => ∃ k : Nat, k ≤ 10 ∧ i = .int .i64 k ∧ Hid (∀ j, j < k → (cfE c)[j]? = some 0) ∧ Hid (Blk wr w0.heap.size 51 ((ruleFs.map fun f => Value.func (.func f) #[] #[]).toArray) ∧ Below w.heap.size w wr ∧ Blk wr w.heap.size 25 cv.toArray)) (fun i _ => 10 - (intOf i).toNat)
  case atStart => exact ⟨0, by omega, rfl, Lib.hid (fun j hj => absurd hj (by omega)), HK1⟩
  case round =>
    obtain ⟨k, hk, rfl, HP, HR⟩ := hrel
    clear HK1 hRK
    by_cases hlt : k < 10
    · have hlt' : (k : Int) < 10 := by omega
      have hk0 : (0 : Int) ≤ k := by omega
      obtain ⟨f, hf⟩ : ∃ f, ruleFs[k]? = some f := ⟨_, List.getElem?_eq_getElem hlt⟩
      obtain ⟨e, he⟩ : ∃ e, (cfE c)[k]? = some e := ⟨_, List.getElem?_eq_getElem hlt⟩
      have hcf : wr.cell? ⟨w0.heap.size, k, none⟩ = some (.func (.func f) #[] #[]) := by
        rw [HR.out.1.cell k, List.getElem?_toArray, List.getElem?_map, hf]
        rfl
      have HF := Lib.hid (And.intro hf he)
      clear hf he
      have hN := Blk.new wr 51 #[Value.nilFunc]
      have hca : (wr.alloc (.cells #[Value.nilFunc] 51)).cell? ⟨wr.heap.size, 0, none⟩ = some Value.nilFunc := hN.cell 0
      have hfa : (wr.alloc (.cells #[Value.nilFunc] 51)).frozen? ⟨wr.heap.size, 0, none⟩ = false := hN.frozen 0
      have hb2 : Below wr.heap.size wr (wr.alloc (.cells #[Value.func (.func f) #[] #[]] 51)) := (Below.refl _ _).alloc (Nat.le_refl _) _
      have hc2 : (wr.alloc (.cells #[Value.func (.func f) #[] #[]] 51)).cell? ⟨wr.heap.size, 0, none⟩ = some (.func (.func f) #[] #[]) := (Blk.new wr 51 #[Value.func (.func f) #[] #[]]).cell 0
      have HC2 := Lib.hid (And.intro hb2 hc2)
      clear hN hb2 hc2
      go_upto_region 4 with fail
      generalize wr.alloc (.cells #[Value.func (.func f) #[] #[]] 51) = w2 at HC2 ⊢
      have HK2 := Lib.hid (HR.out.2.2.below HC2.out.1 HR.out.2.2.lt)
      obtain ⟨d1, d2, -⟩ := HK2.out.whole (n := 9) (by rw [HCV.out]; rfl)
      have hc2 := HC2.out.2
      have HC := Lib.hid (HRU.out k f e HF.out.1 HF.out.2 HP.out w2 (HR.out.2.1.trans (HC2.out.1.mono HR.out.2.1.size)))
      have hent : ∀ args w, (callFunc f args).run Tryz.prog w = .ok (.enter f args) w := rule_enters k f HF.out.1
      clear hca hfa hcf
      go_wp2_with fail
      (with_reducible refine HC.out.mono ?_)
      rintro r w3 ⟨rfl, hb3⟩
      have HR3 := Lib.hid (And.intro ((HR.out.1.below HC2.out.1 HR.out.1.lt).below hb3 (by have h1 := HR.out.1.lt; have h2 := HC2.out.1.size; omega)) (And.intro (HR.out.2.1.trans ((HC2.out.1.trans (hb3.mono HC2.out.1.size)).mono HR.out.2.1.size)) (HK2.out.below hb3 HK2.out.lt)))
      clear hb3 d1 d2 hc2
      by_cases he0 : e = 0
      · subst he0
        have HP2 : Hid (∀ j, j < k + 1 → (cfE c)[j]? = some 0) := Lib.hid fun j hj => by
          by_cases hjk : j < k
          · exact HP.out j hjk
          · rw [show j = k by omega]; exact HF.out.2
        go_wp2_with fail
        go_roundw
        case rel => exact ⟨k + 1, by omega, by simp, HP2, HR3⟩
        case measure => simp [intOf]; omega
      · have hfin : firstE (cfE c) = e := firstE_pre HP.out HF.out.2 he0
        have HFI := Lib.hid hfin
        clear hfin
        go_wp2_with fail
        go_ret2
        exact ⟨by rw [HFI.out]; rfl, HR3.out.2.1⟩
    · obtain rfl : k = 10 := by omega
      exfalso
      refine HNO.out ?_
      have h0 := HP.out
      have hx : ∀ (l : List Int), (∀ j, j < l.length → l[j]? = some 0) → firstE l = 0 := by
        intro l
        induction l with
        | nil => intro _; rfl
        | cons x r ih =>
          intro hh
          have h1 := hh 0 (by simp)
          simp at h1
          subst h1
          simp [firstE]
          exact ih fun j hj => by have := hh (j + 1) (by simp; omega); simpa using this
      exact hx _ h0
end Go.Proofs.YtopakilglnpinaaGreatDoor
