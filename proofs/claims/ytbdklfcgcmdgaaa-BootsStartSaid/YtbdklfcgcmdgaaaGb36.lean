/-
  Maps whose keys are of flat types (structs of bools and integers): a key is checked, found, counted. Over any program. map[api.Cell]int: the laws at this program. agrees.most: the cell that most of the others' tables have of a node. agrees.most, walked.
-/
import Derived.Test.YtbdklfcgcmdgaaaGb02
import Derived.WideKeyRuns
import Derived.MapKept
import Derived.Test.YtbdklfcgcmdgaaaGb11
import Derived.Test.YtbdklfcgcmdgaaaGb17
import Derived.RegionTactic
namespace Go.Proofs.Ytbdklfcgcmdgaaa
open Go.RowKit
set_option linter.unusedVariables false
set_option linter.unusedSimpArgs false

theorem part_flat {P : Program} {d : Nat} {t : TypeId} {k1 : List Kd} {i : TypeInfo} (hk1 : flatT P d t = some k1) (hi : P.info? t = some i) (hs : i.size = k1.length) (w : World) (Z : List Value) (o : Nat) (hz : okL k1 ((Z.drop o).take k1.length) = true) :
    (part t Z.toArray o).run P w = .ok (wrapV P t ((Z.drop o).take k1.length)) w := by
  by_cases hle : o + k1.length ≤ Z.length
  · exact run_part hk1 hi hs w Z o hle
  · have hzl := okL_len hz
    rw [List.length_take, List.length_drop] at hzl
    have hk0 : k1.length = 0 := by omega
    have hA := run_isAggB w (flatT_under hk1)
    have hg : isAggB P t = true := by
      cases hg : isAggB P t with
      | true => rfl
      | false => obtain ⟨k, rfl⟩ := flatT_one hk1 hg; simp at hk0
    unfold part
    rw [Sem.run_bind, hA]
    simp only [Result.andThen_ok, hg, if_true, Sem.run_bind, sizeOf, typeInfo, hi, wrapV]
    simp [hi, hs, hk0]

theorem run_forU {P : Program} {α : Type} (body : α → PUnit → Sem (ForInStep PUnit)) (w : World) : ∀ (l : List α), (∀ x ∈ l, (body x PUnit.unit).run P w = .ok (.yield PUnit.unit) w) → (forIn l PUnit.unit body : Sem PUnit).run P w = .ok PUnit.unit w
  | [], _ => by simp
  | x :: l, h => by
    have h1 := h x (by simp)
    have h2 := run_forU body w l (fun y hy => h y (by simp [hy]))
    simp only [List.forIn_cons, Sem.run_bind, h1, Result.andThen_ok]
    exact h2

theorem check_fs {P : Program} {d e : Nat} {em : Bool} (IH : ∀ t ks, flatT P d t = some ks → ∀ (X : List Value) (w : World), okL ks X = true → (Instr.checkKey em e t (wrapV P t X)).run P w = .ok () w)
    (X : List Value) (w : World) : ∀ (fs : List Field) (o : Nat) (ks : List Kd), flatFs P (flatT P d) o fs = some ks → okL ks (X.drop o) = true →
    ∀ f ∈ fs, (do if f.name ≠ "_" then Instr.checkKey em e f.type (← part f.type X.toArray f.offset) : Sem Unit).run P w = .ok () w
  | [], o, ks, h, hx => fun f hf => by cases hf
  | f :: fs, o, ks, h, hx => fun g hg => by
    unfold flatFs at h
    split at h
    · cases h
    · rename_i hno
      simp only [not_or, ne_eq, Decidable.not_not] at hno
      obtain ⟨hn, ho⟩ := hno
      split at h
      · rename_i k1 i hk1 hi
        split at h
        · rename_i hs
          rw [Option.map_eq_some_iff] at h
          obtain ⟨k2, hk2, rfl⟩ := h
          obtain ⟨hx1, hx2⟩ := okL_split hx
          rw [List.drop_drop] at hx2
          rcases List.mem_cons.1 hg with rfl | hg
          · subst ho
            simp only [ne_eq, hn, not_false_eq_true, if_true, Sem.run_bind, part_flat hk1 hi hs w X _ hx1, Result.andThen_ok]
            exact IH _ k1 hk1 _ w hx1
          · exact check_fs IH X w fs (o + k1.length) k2 hk2 hx2 g hg
        · cases h
      · cases h

theorem run_checkFlat {P : Program} (e : Nat) (em : Bool) : ∀ (d : Nat) (t : TypeId) (ks : List Kd), flatT P d t = some ks → ∀ (X : List Value) (w : World), okL ks X = true →
    (Instr.checkKey em (e + d) t (wrapV P t X)).run P w = .ok () w
  | 0, t, ks, h, X, w, hx => by simp [flatT] at h
  | d + 1, t, ks, h, X, w, hx => by
    have h0 := h
    unfold flatT at h
    cases hu : P.underlying t with
    | none => simp [hu] at h
    | some u =>
      rw [hu] at h
      cases u <;> simp only [reduceCtorEq] at h
      case bool => simp [← Nat.add_assoc, Instr.checkKey, run_underlying hu]
      case int k => simp [← Nat.add_assoc, Instr.checkKey, run_underlying hu]
      case struct fs =>
        split at h
        · cases h
        · have hg : isAggB P t = true := by simp [isAggB, hu]
          have hall := check_fs (em := em) (run_checkFlat e em d) X w fs.toList 0 ks h (by simpa using hx)
          have key : (forIn fs PUnit.unit (fun f _ => if f.name = "_" then pure (ForInStep.yield PUnit.unit) else do
              let y ← part f.type X.toArray f.offset
              (fun _ => ForInStep.yield PUnit.unit) <$> Instr.checkKey em (e + d) f.type y) : Sem PUnit).run P w = .ok PUnit.unit w := by
            rw [← Array.forIn_toList]
            refine run_forU _ w _ fun f hf => ?_
            have h1 := hall f hf
            by_cases hn : f.name = "_"
            · simp [hn]
            · simp only [ne_eq, hn, not_false_eq_true, if_true, Sem.run_bind] at h1
              simp only [hn, if_false, Sem.run_bind]
              cases hp : (part f.type X.toArray f.offset).run P w with
              | ok v w' =>
                rw [hp, Result.andThen_ok] at h1
                simp [h1]
              | _ => rw [hp] at h1; cases h1
          simp only [wrapV, hg, if_true, ← Nat.add_assoc]
          simp [Instr.checkKey, run_underlying hu, key]
      case array n el =>
        split at h
        · rename_i k1 i hk1 hi
          split at h
          · rename_i hs
            simp at h
            subst h
            have hg : isAggB P t = true := by simp [isAggB, hu]
            have hc : P.cellsOf el = k1.length := by simp [Program.cellsOf, hi, hs]
            have key : (forIn (List.range' 0 n) PUnit.unit (fun i _ => do
                let z ← sizeOf el
                let y ← part el X.toArray (i * z)
                (fun _ => ForInStep.yield PUnit.unit) <$> Instr.checkKey em (e + d) el y) : Sem PUnit).run P w = .ok PUnit.unit w := by
              refine run_forU _ w _ fun i hi' => ?_
              have hin : i < n := by simpa [List.mem_range'] using hi'
              have hz : okL k1 ((X.drop (i * k1.length)).take k1.length) = true := by
                have e1 : List.replicate n k1 = List.replicate i k1 ++ (k1 :: List.replicate (n - i - 1) k1) := by
                  rw [← List.replicate_succ, List.replicate_append_replicate]; congr 1; omega
                rw [e1, List.flatten_append, List.flatten_cons] at hx
                obtain ⟨-, hx2⟩ := okL_split hx
                have e2 : ((List.replicate i k1).flatten).length = i * k1.length := by simp
                rw [e2] at hx2
                exact (okL_split hx2).1
              have hsz : (sizeOf el).run P w = .ok k1.length w := by simp [sizeOf, typeInfo, hi, hs]
              simp [hsz, part_flat hk1 hi hs w X _ hz, run_checkFlat e em d el k1 hk1 _ w hz]
            simp only [wrapV, hg, if_true, ← Nat.add_assoc]
            simp [Instr.checkKey, run_underlying hu, key]
          · cases h
        · cases h

/-! ### the map's entries: a key's cells, a count, a stamp -/
structure Ent where
  k : List Value
  v : Int
  b : Nat
def Ent.me (e : Ent) : MapEntry := ⟨.agg e.k.toArray, .int .i64 e.v, e.b⟩
structure MapB (w : World) (g : Nat) (ks : List Kd) (es : List Ent) (clock : Nat) : Prop where
  blk : w.heap[g]? = some (.map (es.map Ent.me).toArray clock)
  ok : ∀ e ∈ es, okL ks e.k = true
  born : ∀ e ∈ es, e.b < clock
  bs : es.Pairwise (fun a b => a.b ≠ b.b)
  ks' : es.Pairwise (fun a b => a.k ≠ b.k)
open Classical in
noncomputable def findE (k : List Value) : List Ent → Nat → Option (Nat × Ent)
  | [], _ => none
  | e :: es, i => if e.k = k then some (i, e) else findE k es (i + 1)
noncomputable def valE (es : List Ent) (k : List Value) : Int := match findE k es 0 with | some (_, e) => e.v | none => 0

open Classical in
theorem run_findE {P : Program} {t : TypeId} {ks : List Kd} {d : Nat} (hf : flatT P d t = some ks) (hd : d ≤ 10000) (hg : isAggB P t = true) (k : List Value) (hk : okL ks k = true) (w : World) : ∀ (es : List Ent) (i : Nat), (∀ e ∈ es, okL ks e.k = true) →
    (Instr.findAsking t (.agg k.toArray) (es.map Ent.me) i).run P w = .ok ((findE k es i).map fun p => (p.1, .int .i64 p.2.v)) w
  | [], i, h => by simp [Instr.findAsking, findE]
  | e :: es, i, h => by
    have h1 := run_eqFlat (P := P) (10000 - d) d t ks hf k e.k w hk (h e (by simp))
    rw [Nat.sub_add_cancel hd] at h1
    simp only [wrapV, hg, if_true] at h1
    have ih := run_findE hf hd hg k hk w es (i + 1) (fun x hx => h x (by simp [hx]))
    have h2 : (Op.equal t (.agg k.toArray) (.agg e.k.toArray)).run P w = .ok (decide (k = e.k)) w := h1
    simp only [List.map_cons, Instr.findAsking, Ent.me, Sem.run_bind, h2, Result.andThen_ok]
    by_cases hke : k = e.k
    · simp [hke, findE]
    · simp only [hke, decide_false, Bool.false_eq_true, if_false]
      rw [findE, if_neg (fun h => hke h.symm)]
      exact ih
theorem findE_at {k : List Value} : ∀ {es : List Ent} {i j : Nat} {e : Ent}, findE k es i = some (j, e) → e.k = k ∧ i ≤ j ∧ es[j - i]? = some e
  | [], i, j, e, h => by simp [findE] at h
  | x :: es, i, j, e, h => by
    unfold findE at h
    split at h
    · rename_i hx
      simp at h
      obtain ⟨rfl, rfl⟩ := h
      exact ⟨hx, Nat.le_refl _, by simp⟩
    · obtain ⟨h1, h2, h3⟩ := findE_at h
      refine ⟨h1, by omega, ?_⟩
      rw [show j - i = (j - (i + 1)) + 1 from by omega]
      simpa using h3
theorem findE_none {k : List Value} : ∀ {es : List Ent} {i : Nat}, findE k es i = none → ∀ e ∈ es, e.k ≠ k
  | [], i, h => fun e he => by cases he
  | x :: es, i, h => fun e he => by
    unfold findE at h
    split at h
    · cases h
    · rename_i hx
      rcases List.mem_cons.1 he with rfl | he
      · exact hx
      · exact findE_none h e he
theorem findE_shift {k : List Value} : ∀ {es : List Ent} (i j : Nat), (findE k es i).map (·.2) = (findE k es j).map (·.2)
  | [], i, j => rfl
  | x :: es, i, j => by
    unfold findE
    split
    · rfl
    · exact findE_shift _ _
theorem valE_eq (es : List Ent) (k : List Value) (i : Nat) : valE es k = (((findE k es i).map (·.2)).map Ent.v).getD 0 := by
  rw [findE_shift i 0]
  unfold valE
  cases findE k es 0 with
  | none => rfl
  | some p => rfl
theorem valE_cons (e : Ent) (es : List Ent) (k : List Value) [Decidable (e.k = k)] : valE (e :: es) k = if e.k = k then e.v else valE es k := by
  rw [valE_eq (e :: es) k 0, valE_eq es k 1]
  rw [findE]
  by_cases h : e.k = k <;> simp [h]
theorem valE_push (es : List Ent) (k0 : List Value) (b : Nat) (k : List Value) : valE (es ++ [⟨k0, 0, b⟩]) k = valE es k := by
  induction es with
  | nil =>
    classical
    rw [List.nil_append, valE_cons]
    split <;> rfl
  | cons e es ih =>
    classical
    rw [List.cons_append, valE_cons, valE_cons, ih]
/-- the entry of a stamp is given a value -/
def setB (es : List Ent) (b : Nat) (v : Int) : List Ent := es.map fun e => if e.b = b then { e with v := v } else e
theorem setB_val (es : List Ent) (b : Nat) (v : Int) {e0 : Ent} (h0 : e0 ∈ es) (hb : e0.b = b) (hbs : es.Pairwise (fun a b => a.b ≠ b.b)) (hks : es.Pairwise (fun a b => a.k ≠ b.k)) (k : List Value) [Decidable (k = e0.k)] :
    valE (setB es b v) k = if k = e0.k then v else valE es k := by
  classical
  induction es with
  | nil => cases h0
  | cons e es ih =>
    rw [List.pairwise_cons] at hbs hks
    rw [setB, List.map_cons, valE_cons, valE_cons]
    rcases List.mem_cons.1 h0 with rfl | h0
    · rw [if_pos hb]
      have hrest : setB es b v = es := by
        unfold setB
        conv => rhs; rw [← List.map_id es]
        refine List.map_congr_left fun x hx => ?_
        rw [if_neg (fun h => hbs.1 x hx (hb.trans h.symm))]; rfl
      show (if e0.k = k then v else valE (setB es b v) k) = _
      rw [hrest]
      by_cases hk : e0.k = k
      · rw [if_pos hk, if_pos hk.symm]
      · rw [if_neg hk, if_neg (fun h => hk h.symm), if_neg hk]
    · have hne : e.b ≠ b := fun h => hbs.1 e0 h0 (h.trans hb.symm)
      have hkne : e.k ≠ e0.k := hks.1 e0 h0
      rw [if_neg hne]
      have := ih h0 hbs.2 hks.2
      rw [setB] at this
      rw [this]
      by_cases hk : k = e0.k
      · rw [if_pos hk, if_neg (fun h => hkne (h.trans hk))]
        rw [if_pos hk]
      · rw [if_neg hk, if_neg hk]

open Go.ChangeMaps (setBlock)
theorem setBlock_at {w : World} {g : Nat} (o : Obj) (hg : g < w.heap.size) : (setBlock w g o).heap[g]? = some o := by
  simp [setBlock, hg]
theorem setBlock_far {w : World} {g b : Nat} (o : Obj) (hb : b ≠ g) : (setBlock w g o).heap[b]? = w.heap[b]? := by
  simp [setBlock, Array.getElem?_setIfInBounds]
  intro h; exact absurd h.symm hb
theorem sameBits_flat {ks : List Kd} {k : List Value} (h : okL ks k = true) : Instr.sameBits 10000 (.agg k.toArray) (.agg k.toArray) = true := by
  have : ∀ (ks : List Kd) (l : List Value), okL ks l = true → ∀ x ∈ l, Instr.sameBits 9999 x x = true := by
    intro ks
    induction ks with
    | nil => intro l h x hx; cases l with | nil => cases hx | cons a b => simp [okL] at h
    | cons kd ks ih =>
      intro l h x hx
      cases l with
      | nil => cases hx
      | cons a l =>
        rw [okL, Bool.and_eq_true] at h
        rcases List.mem_cons.1 hx with rfl | hx
        · have h0 := h.1
          cases kd <;> cases x <;> simp [okK] at h0 <;> simp [Instr.sameBits]
        · exact ih l h.2 x hx
  have h2 := this ks k h
  simp only [Instr.sameBits, beq_self_eq_true, Bool.true_and]
  rw [List.all_eq_true]
  rintro ⟨x, y⟩ hxy
  have hz : List.zip k k = k.map fun a => (a, a) := by
    clear h h2 hxy this
    induction k with
    | nil => rfl
    | cons a l ih => simp [ih]
  have hxy' : (x, y) ∈ List.zip k k := hxy
  rw [hz] at hxy'
  obtain ⟨a, ha, he⟩ := List.mem_map.1 hxy'
  cases he
  exact h2 x ha
section
variable {P : Program} {M kt et : TypeId} {ks : List Kd} {d : Nat}
theorem run_find (hf : flatT P d kt = some ks) (hd : d ≤ 10000) (hg : isAggB P kt = true) {k : List Value} (hk : okL ks k = true) (w : World) (es : List Ent) (h : ∀ e ∈ es, okL ks e.k = true) :
    (Instr.findKey kt (.agg k.toArray) (es.map Ent.me)).run P w = .ok ((findE k es 0).map fun p => (p.1, .int .i64 p.2.v)) w := by
  have hw : (match P.underlying kt with | some (.array _ _) | some (.struct _) => true | _ => false) = true := by
    unfold isAggB at hg; split at hg <;> simp_all
  rw [run_findKey_eq w hw]
  exact run_findE hf hd hg k hk w es 0 h
theorem run_check (hf : flatT P d kt = some ks) (hd : d ≤ 10000) (hg : isAggB P kt = true) {k : List Value} (hk : okL ks k = true) (w : World) (em : Bool) : (Instr.checkKey em 10000 kt (.agg k.toArray)).run P w = .ok () w := by
  have := run_checkFlat (P := P) (10000 - d) em d kt ks hf k w hk
  rw [Nat.sub_add_cancel hd] at this
  simpa only [wrapV, hg, if_true] using this
theorem run_look (hM : P.underlying M = some (.map kt et)) (hf : flatT P d kt = some ks) (hd : d ≤ 10000) (hg : isAggB P kt = true) (hz : ∀ w, (zeroValue et).run P w = .ok (.int .i64 0) w) {k : List Value} (hk : okL ks k = true) {w : World} {g : Nat} {es : List Ent} {clock : Nat} (h : MapB w g ks es clock) :
    (Instr.lookup M (.map (some g)) (.agg k.toArray) false).run P w = .ok (.int .i64 (valE es k)) w := by
  have h1 := run_find hf hd hg hk w es h.ok
  unfold Instr.lookup
  simp only [Sem.run_bind, run_underlying hM, Result.andThen_ok, MapKept.run_getObj_map h.blk, run_check hf hd hg hk w, List.toList_toArray, Sem.run_pure]
  rw [h1]
  simp only [Result.andThen_ok]
  unfold valE
  cases findE k es 0 with
  | none => simp [hz w]
  | some p => simp
theorem modify_same {es : List Ent} {i : Nat} {e : Ent} (hi : es[i]? = some e) (f : MapEntry → MapEntry) (hf : f e.me = e.me) : (es.map Ent.me).toArray.modify i f = (es.map Ent.me).toArray := by
  apply Array.ext_getElem?
  intro j
  rw [Array.getElem?_modify]
  by_cases hij : i = j
  · subst hij
    rw [if_pos rfl]
    simp [hi, hf]
  · rw [if_neg hij]
theorem run_entry (hM : P.underlying M = some (.map kt et)) (hf : flatT P d kt = some ks) (hd : d ≤ 10000) (hg : isAggB P kt = true) (hz : ∀ w, (zeroValue et).run P w = .ok (.int .i64 0) w) {k : List Value} (hk : okL ks k = true) {w : World} {g : Nat} {es : List Ent} {clock : Nat} (h : MapB w g ks es clock) :
    ∃ (b : Nat) (es1 : List Ent) (clock1 : Nat), (Instr.mapEntry M (.map (some g)) (.agg k.toArray)).run P w = .ok (.tuple #[.int .i64 (valE es k), .int .i64 b]) (setBlock w g (.map (es1.map Ent.me).toArray clock1)) ∧
      MapB (setBlock w g (.map (es1.map Ent.me).toArray clock1)) g ks es1 clock1 ∧ (∀ k', valE es1 k' = valE es k') ∧ ∃ e ∈ es1, e.b = b ∧ e.k = k := by
  have hgl : g < w.heap.size := by
    rcases Nat.lt_or_ge g w.heap.size with hlt | hge
    · exact hlt
    · have := h.blk; rw [Array.getElem?_eq_none hge] at this; cases this
  have h1 := run_find hf hd hg hk w es h.ok
  cases hfe : findE k es 0 with
  | some p =>
    obtain ⟨i, e⟩ := p
    obtain ⟨hek, -, hei⟩ := findE_at hfe
    rw [Nat.sub_zero] at hei
    rw [hfe] at h1
    have hv : valE es k = e.v := by unfold valE; rw [hfe]
    have hmi : (es.map Ent.me).toArray[i]? = some e.me := by simp [hei]
    have hst : (Instr.keyThatStays (.agg k.toArray) (.agg k.toArray)).run P w = .ok (.agg k.toArray) w := by
      unfold Instr.keyThatStays
      rw [if_pos (sameBits_flat hk)]; rfl
    refine ⟨e.b, es, clock, ?_, ⟨setBlock_at _ hgl, h.ok, h.born, h.bs, h.ks'⟩, fun _ => rfl, e, List.mem_of_getElem? hei, rfl, hek⟩
    have hke : e.me.key = .agg k.toArray := by rw [← hek]; rfl
    unfold Instr.mapEntry
    simp only [Sem.run_bind, run_underlying hM, Result.andThen_ok, MapKept.run_getObj_map h.blk, run_check hf hd hg hk w, List.toList_toArray, h1, Option.map_some, hmi, Option.getD_some, hke, hst]
    rw [MapKept.run_setObj_map _ h.blk, modify_same hei _ (by rw [← hke])]
    simp [hv, goInt, setBlock, Ent.me]
  | none =>
    rw [hfe] at h1
    have hno := findE_none hfe
    have hv : valE es k = 0 := by unfold valE; rw [hfe]
    have hz1 := hz w
    refine ⟨clock, es ++ [⟨k, 0, clock⟩], clock + 1, ?_, ⟨setBlock_at _ hgl, ?_, ?_, ?_, ?_⟩, fun k' => valE_push es k clock k', ⟨k, 0, clock⟩, by simp, rfl, rfl⟩
    · unfold Instr.mapEntry
      simp only [Sem.run_bind, run_underlying hM, Result.andThen_ok, MapKept.run_getObj_map h.blk, run_check hf hd hg hk w, List.toList_toArray, h1, Option.map_none, hz1]
      rw [MapKept.run_setObj_map _ h.blk]
      simp [hv, goInt, setBlock, Ent.me]
    · intro e he
      rcases List.mem_append.1 he with he | he
      · exact h.ok e he
      · have : e = ⟨k, 0, clock⟩ := by simpa using he
        rw [this]; exact hk
    · intro e he
      rcases List.mem_append.1 he with he | he
      · have := h.born e he; omega
      · have : e = ⟨k, 0, clock⟩ := by simpa using he
        rw [this]; exact Nat.lt_succ_self _
    · rw [List.pairwise_append]
      refine ⟨h.bs, by simp, fun a ha b hb => ?_⟩
      have : b = ⟨k, 0, clock⟩ := by simpa using hb
      rw [this]
      have := h.born a ha
      intro e
      simp only at e
      omega
    · rw [List.pairwise_append]
      refine ⟨h.ks', by simp, fun a ha b hb => ?_⟩
      have : b = ⟨k, 0, clock⟩ := by simpa using hb
      rw [this]
      exact hno a ha
theorem run_stamp {w : World} {g : Nat} {es : List Ent} {clock : Nat} (h : MapB w g ks es clock) {e : Ent} (he : e ∈ es) (v : Int) :
    (Instr.entryStore M (.map (some g)) (.int .i64 e.b) (.int .i64 v)).run P w = .ok () (setBlock w g (.map ((setB es e.b v).map Ent.me).toArray clock)) ∧
      MapB (setBlock w g (.map ((setB es e.b v).map Ent.me).toArray clock)) g ks (setB es e.b v) clock := by
  have hgl : g < w.heap.size := by
    rcases Nat.lt_or_ge g w.heap.size with hlt | hge
    · exact hlt
    · have := h.blk; rw [Array.getElem?_eq_none hge] at this; cases this
  have hb : ∀ x : Ent, (if x.b = e.b then { x with v := v } else x).b = x.b := fun x => by split <;> rfl
  have hkk : ∀ x : Ent, (if x.b = e.b then { x with v := v } else x).k = x.k := fun x => by split <;> rfl
  refine ⟨?_, ⟨setBlock_at _ hgl, ?_, ?_, ?_, ?_⟩⟩
  · unfold Instr.entryStore
    simp only [Sem.run_bind, MapKept.run_getObj_map h.blk, Result.andThen_ok]
    have hex : ∃ i, (es.map Ent.me).toArray.findIdx? (fun x => (x.born : Int) == (e.b : Int)) = some i ∧ ∃ x, es[i]? = some x ∧ x.b = e.b := by
      cases hfi : (es.map Ent.me).toArray.findIdx? (fun x => (x.born : Int) == (e.b : Int)) with
      | none =>
        exfalso
        rw [Array.findIdx?_eq_none_iff] at hfi
        have := hfi e.me (by simp; exact ⟨e, he, rfl⟩)
        simp [Ent.me] at this
      | some i =>
        refine ⟨i, rfl, ?_⟩
        rw [Array.findIdx?_eq_some_iff_getElem] at hfi
        obtain ⟨hi, h2, -⟩ := hfi
        have hil : i < es.length := by simpa using hi
        refine ⟨es[i], List.getElem?_eq_getElem hil, ?_⟩
        simp [Ent.me] at h2
        exact Int.ofNat.inj h2
    obtain ⟨i, hi, x, hx, hxb⟩ := hex
    have hm : (es.map Ent.me).toArray.modify i (fun y => { y with val := Value.int .i64 v }) = ((setB es e.b v).map Ent.me).toArray := by
      apply Array.ext_getElem?
      intro j
      rw [Array.getElem?_modify]
      simp only [List.getElem?_toArray, List.getElem?_map, setB]
      by_cases hij : i = j
      · subst hij
        simp [hx, hxb, Ent.me]
      · rw [if_neg hij]
        cases hj : es[j]? with
        | none => rfl
        | some y =>
          have hyb : y.b ≠ e.b := by
            rw [← hxb]
            obtain ⟨hil, rfl⟩ := List.getElem?_eq_some_iff.1 hx
            obtain ⟨hjl, rfl⟩ := List.getElem?_eq_some_iff.1 hj
            have hp := List.pairwise_iff_getElem.1 h.bs
            rcases Nat.lt_or_gt_of_ne hij with hlt | hlt
            · exact fun hh => hp i j hil hjl hlt hh.symm
            · exact hp j i hjl hil hlt
          simp [hyb]
    have ha : (asInt (Value.int .i64 (e.b : Int))).run P w = .ok (e.b : Int) w := by rfl
    simp only [ha, Result.andThen_ok, hi]
    rw [MapKept.run_setObj_map _ h.blk, hm]
    rfl
  · intro x hx
    obtain ⟨y, hy, rfl⟩ := List.mem_map.1 hx
    rw [hkk]; exact h.ok y hy
  · intro x hx
    obtain ⟨y, hy, rfl⟩ := List.mem_map.1 hx
    rw [hb]; exact h.born y hy
  · unfold setB
    rw [List.pairwise_map]
    exact h.bs.imp (fun {a b} hab => by rw [hb, hb]; exact hab)
  · unfold setB
    rw [List.pairwise_map]
    exact h.ks'.imp (fun {a b} hab => by rw [hkk, hkk]; exact hab)
end
end Go.Proofs.Ytbdklfcgcmdgaaa
namespace Go.Proofs.Ytbdklfcgcmdgaaa
open Go.RowKit
open Go.ChangeMaps (setBlock)
set_option linter.unusedVariables false
set_option linter.unusedSimpArgs false

theorem mapU : Try.prog.underlying 194 = some (.map 51 3) := Try.underlying194
theorem flatCell : flatT Try.prog 6 51 = some cellK := by kernel_rfl
theorem aggCell : isAggB Try.prog 51 = true := by kernel_rfl
theorem zeroInt (w : World) : (zeroValue 3).run Try.prog w = .ok (.int .i64 0) w := by
  have h : (Try.prog.info? 3).bind (·.zero) = some (.int .i64 0) := by kernel_rfl
  cases hi : Try.prog.info? 3 with
  | none => simp [hi] at h
  | some i =>
    simp [hi] at h
    simp [zeroValue, typeInfo, hi, h]
theorem look_cell {k : List Value} (hk : okL cellK k = true) {w : World} {g : Nat} {es : List Ent} {clock : Nat} (h : MapB w g cellK es clock) :
    (Instr.lookup 194 (.map (some g)) (.agg k.toArray) false).run Try.prog w = .ok (.int .i64 (valE es k)) w := run_look mapU flatCell (by omega) aggCell zeroInt hk h
theorem MapB.of_block {w w' : World} {g : Nat} {ks : List Kd} {es : List Ent} {clock : Nat} (h : MapB w g ks es clock) (hb : w'.heap[g]? = w.heap[g]?) : MapB w' g ks es clock := ⟨hb.trans h.blk, h.ok, h.born, h.bs, h.ks'⟩
theorem MapB.lt {w : World} {g : Nat} {ks : List Kd} {es : List Ent} {clock : Nat} (h : MapB w g ks es clock) : g < w.heap.size := lt_of_some h.blk
/-- many[c]++, in whichever order: the two worlds, and the map behind -/
theorem count_cell {k : List Value} (hk : okL cellK k = true) {w : World} {g : Nat} {es : List Ent} {clock : Nat} (h : MapB w g cellK es clock) :
    ∃ (b : Nat) (w1 w2 : World) (es2 : List Ent) (clock2 : Nat), (Instr.mapEntry 194 (.map (some g)) (.agg k.toArray)).run Try.prog w = .ok (.tuple #[.int .i64 (valE es k), .int .i64 b]) w1 ∧
      (Instr.lookup 194 (.map (some g)) (.agg k.toArray) false).run Try.prog w1 = .ok (.int .i64 (valE es k)) w1 ∧
      (Instr.entryStore 194 (.map (some g)) (.int .i64 b) (.int .i64 (valE es k + 1))).run Try.prog w1 = .ok () w2 ∧
      MapB w2 g cellK es2 clock2 ∧ valE es2 k = valE es k + 1 ∧ (∀ k', k' ≠ k → valE es2 k' = valE es k') ∧ Chg (· = g) w w1 ∧ Chg (· = g) w w2 := by
  obtain ⟨b, es1, c1, h1, h2, h3, e, he1, rfl, he2⟩ := run_entry mapU flatCell (by omega) aggCell zeroInt hk h
  obtain ⟨h4, h5⟩ := run_stamp (M := 194) (P := Try.prog) h2 he1 (valE es k + 1)
  have hg := h.lt
  have hch : ∀ (w : World) (o : Obj), Chg (· = g) w (setBlock w g o) := fun w o => ⟨rfl, rfl, rfl, by simp [setBlock], fun b _ hn => setBlock_far _ hn⟩
  refine ⟨e.b, _, _, _, _, h1, ?_, h4, h5, ?_, fun k' hk' => ?_, hch w _, (hch w _).trans (hch _ _)⟩
  · rw [look_cell hk h2, h3]
  · classical
    rw [setB_val _ _ _ he1 rfl h2.bs h2.ks', if_pos he2.symm]
  · classical
    rw [setB_val _ _ _ he1 rfl h2.bs h2.ks', if_neg (fun h => hk' (h.trans he2)), h3]
theorem new_map (w : World) : MapB (w.alloc (.map #[] 0)) w.heap.size cellK [] 0 := ⟨heap_alloc_new w _, by simp, by simp, .nil, .nil⟩
@[go_sem] theorem mk_map (w : World) : (Instr.makeMap 194 none).run Try.prog w = .ok (.map (some w.heap.size)) (w.alloc (.map #[] 0)) := by
  simp [Instr.makeMap, newObj, Sem.run]
theorem valE_nil (k : List Value) : valE [] k = 0 := rfl
end Go.Proofs.Ytbdklfcgcmdgaaa
namespace Go.Proofs.Ytbdklfcgcmdgaaa
open Go.RowKit
set_option linter.unusedVariables false
set_option linter.unusedSimpArgs false

/-- what row k's table has of s -/
def hasC (l : List Rw) (k s : Nat) : Option (List Value) := match l[k]? with
  | some r => if r.is then (match r.t[s]? with | some h => if h.is then some h.c else none | none => none) else none
  | none => none
open Classical in
/-- in how many of the first k tables, its own aside, s has the cell c -/
noncomputable def cntL (s : Nat) (l : List Rw) : Nat → List Value → Nat
  | 0, _ => 0
  | k + 1, c => cntL s l k c + if k ≠ s ∧ hasC l k s = some c then 1 else 0
theorem cntL_le (s : Nat) (l : List Rw) (c : List Value) : ∀ k, cntL s l k c ≤ k
  | 0 => Nat.le_refl _
  | k + 1 => by
    have := cntL_le s l c k
    unfold cntL
    split <;> omega
theorem cntL_mono (s : Nat) (l : List Rw) (c : List Value) {k : Nat} : ∀ {j : Nat}, k ≤ j → cntL s l k c ≤ cntL s l j c
  | 0, h => by have : k = 0 := by omega
               subst this; exact Nat.le_refl _
  | j + 1, h => by
    by_cases hk : k = j + 1
    · subst hk; exact Nat.le_refl _
    · have := cntL_mono s l c (k := k) (j := j) (by omega)
      have h2 : cntL s l (j + 1) c ≥ cntL s l j c := by
        show cntL s l j c + _ ≥ _
        omega
      omega
/-- two cells are not both had by most -/
theorem cntL_two (s : Nat) (l : List Rw) {c c' : List Value} (hne : c ≠ c') : ∀ k, cntL s l k c + cntL s l k c' ≤ if s < k then k - 1 else k
  | 0 => by simp [cntL]
  | k + 1 => by
    have ih := cntL_two s l hne k
    unfold cntL
    by_cases hks : k = s
    · subst hks
      simp only [ne_eq, not_true_eq_false, false_and, if_false, Nat.add_zero]
      split at ih <;> split <;> omega
    · have : ¬ (hasC l k s = some c ∧ hasC l k s = some c') := fun ⟨h1, h2⟩ => hne (by rw [h1] at h2; injection h2)
      by_cases h1 : hasC l k s = some c
      · have h2 : ¬ (k ≠ s ∧ hasC l k s = some c') := fun h2 => this ⟨h1, h2.2⟩
        rw [if_pos ⟨hks, h1⟩, if_neg h2]
        split at ih <;> split <;> omega
      · rw [if_neg (fun h => h1 h.2)]
        split <;> split at ih <;> split <;> omega
/-- what is agreed of s -/
def MostP (n s : Nat) (l : List Rw) (M : Nat) (h : Hd) : Prop := (∃ c, h = ⟨true, c⟩ ∧ okL cellK c = true ∧ n - 1 < 2 * cntL s l M c) ∨ (h = hd0 ∧ ∀ c, 2 * cntL s l M c ≤ n - 1)
theorem MostP.unique {n s : Nat} {l : List Rw} {M : Nat} (hs : s < n) (hM : M ≤ n) {h h' : Hd} (p : MostP n s l M h) (p' : MostP n s l M h') : h = h' := by
  rcases p with ⟨c, rfl, -, h1⟩ | ⟨rfl, h1⟩ <;> rcases p' with ⟨c', rfl, -, h2⟩ | ⟨rfl, h2⟩
  · by_cases hc : c = c'
    · rw [hc]
    · have := cntL_two s l hc M
      split at this <;> omega
  · have := h2 c; omega
  · have := h1 c'; omega
  · rfl
end Go.Proofs.Ytbdklfcgcmdgaaa
namespace Go.Proofs.Ytbdklfcgcmdgaaa
open Go.RowKit
set_option linter.unusedVariables false
set_option linter.unusedSimpArgs false

structure MR (w : World) (s : Nat) (l : List Rw) (k : Nat) (wr : World) : Prop where
  map : ∃ es clock, MapB wr (w.heap.size + 1) cellK es clock ∧ ∀ c, valE es c = (cntL s l k c : Int)
  b0 : Blk wr w.heap.size 114 heldZ.toArray
  bel : Below w.heap.size w wr
  sz : w.heap.size + 1 + 1 ≤ wr.heap.size

theorem MR.skip {w : World} {s : Nat} {l : List Rw} {k : Nat} {wr w2 : World} (h : MR w s l k wr) (hB : Below wr.heap.size wr w2) (hno : ¬ (k ≠ s ∧ (hasC l k s).isSome = true)) : MR w s l (k + 1) w2 ∧ ∀ c, cntL s l (k + 1) c = cntL s l k c := by
  have e : ∀ c, cntL s l (k + 1) c = cntL s l k c := fun c => by
    show cntL s l k c + _ = _
    rw [if_neg (fun h => hno ⟨h.1, by rw [h.2]; rfl⟩)]; rfl
  obtain ⟨⟨es, clock, hm, hv⟩, h0, hb, hs⟩ := h
  have hsz := hB.size
  refine ⟨⟨⟨es, clock, hm.of_block (hB.block _ (by omega)), fun c => by rw [hv c, e c]⟩, h0.below hB (by omega), hb.trans (hB.mono (by omega)), by omega⟩, e⟩

@[go_sem ↓] theorem min_two (ats : Array TypeId) (ty : TypeId) (x y : Nat) : Builtin.min_ ats ty #[.int .i64 (x : Int), .int .i64 (y : Int)] = pure (.int .i64 ((min x y : Nat) : Int)) := by
  simp only [Builtin.min_, List.foldlM, Builtin.min2]
  by_cases h : y < x
  · have h1 : (y : Int) < (x : Int) := by omega
    rw [Nat.min_eq_right (by omega)]
    simp [h1]
  · have h1 : ¬ (y : Int) < (x : Int) := by omega
    rw [Nat.min_eq_left (by omega)]
    simp [h1]

set_option maxRecDepth 100000 in
set_option maxHeartbeats 8000000 in
theorem most_any (S : Nat → Prop) (n s : Nat) (hn : 4 ≤ n ∧ n ≤ 16) (hs : s < n) (a : Option Addr) (len cap : Nat) (l : List Rw) (w : World) (hrd : RdRs S w a len l) (hm1 : len ≤ cap) (hm2 : cap ≤ maxLen) :
    Calls Try.prog 69 #[.int .i64 n, .int .i64 s, .slice a len cap] w fun e w' => ∃ h, e = .returned (.agg h.vals.toArray) ∧ MostP n s l (min n len) h ∧ Below w.heap.size w w' := by
  unfold maxLen at hm2
  have hll : l.length = len := hrd.1
  obtain ⟨M, hM⟩ : ∃ M, M = min n len := ⟨_, rfl⟩
  rw [← hM]
  have hst : MR w s l 0 ((w.alloc (.cells heldZ.toArray 114)).alloc (.map #[] 0)) := by
    have h := new_map (w.alloc (.cells heldZ.toArray 114))
    have e : (w.alloc (.cells heldZ.toArray 114)).heap.size = w.heap.size + 1 := by simp
    rw [e] at h
    exact ⟨⟨_, _, h, fun c => rfl⟩, (Blk.new _ _ _).alloc _, ((Below.refl _ _).alloc (Nat.le_refl _) _).alloc (by simp) _, by simp⟩
  have HR := Lib.hid hrd
  clear hrd
  go_enter Try.func69, Try.ntmps69
  go_upto_region 2 with fail
  generalize ((w.alloc (.cells heldZ.toArray 114)).alloc (.map #[] 0)) = w1 at hst ⊢
  have H1 := Lib.hid hst
  clear hst
  have hMn : M ≤ n := by omega
  have hMl : M ≤ len := by omega
  have hMx := hM.symm
  clear hM
  go_upto_region 3 with fail
  have HM := Lib.hid hMx
  clear hMx
  go_loopw [19] (fun i wr => ∃ k : Nat, k ≤ M ∧ i = .int .i64 k ∧ (∀ c, 2 * cntL s l k c ≤ n - 1) ∧ MR w s l k wr) (fun i _ => M - (intOf i).toNat)
  case atStart => exact ⟨0, by omega, rfl, fun c => by simp [cntL], H1.out⟩
  case round =>
    obtain ⟨k, hk, rfl, hc, hr⟩ := hrel
    by_cases hlt : k < M
    · obtain ⟨b, off, x, m, cp, r, rfl, hS, hbw, hv, hok, hrl, hrc1, hr1, hr2, -, -, hr5, hr6, hr7⟩ := HR.out.at_ k (by omega)
      have d := row_below hr.bel (p := ⟨b, off + k * 57, none⟩) hbw 57
      have d1 := d.1.trans hr1
      have d2 : rowOf wr ⟨b, off + k * 57, none⟩ 57 = r.vals (.slice x m cp) := d.2.trans hr2
      have hvl := Rw.len hok (.slice x m cp)
      have hvc : (r.vals (.slice x m cp)).all cell1 = true := RowR.cell1 (S := S) (w := w) ⟨x, m, cp, rfl, hr5, hr6, hr7⟩ hok
      have hrd5 := hr5.below hr.bel (fun _ _ h => h)
      have hml : r.t.length = m := hr5.1
      have hkl : k < len := by omega
      have HH := Lib.hid (And.intro hc (And.intro hr (And.intro hv (And.intro hrd5 hml))))
      clear d hr1 hr2 hr5 hc hr hv hrd5 hml hrl hrc1
      go_upto_region 5 with fail
      have hB2 : Below wr.heap.size wr (wr.alloc (.cells (r.vals (.slice x m cp)).toArray 54)) := (Below.refl _ _).alloc (Nat.le_refl _) _
      have hbk : Blk (wr.alloc (.cells (r.vals (.slice x m cp)).toArray 54)) wr.heap.size 54 (r.vals (.slice x m cp)).toArray := Blk.new _ _ _
      have hs2 : (wr.alloc (.cells (r.vals (.slice x m cp)).toArray 54)).heap.size = wr.heap.size + 1 := by simp
      generalize wr.alloc (.cells (r.vals (.slice x m cp)).toArray 54) = w2 at hB2 hbk hs2 ⊢
      obtain ⟨f0, -, -, f3, -⟩ := blk_row hbk hok
      have hfin : (¬ (k ≠ s ∧ (hasC l k s).isSome = true)) → ∃ k' : Nat, k' ≤ M ∧ Value.int .i64 ((k : Int) + 1) = .int .i64 k' ∧ (∀ c, 2 * cntL s l k' c ≤ n - 1) ∧ MR w s l k' w2 := fun hno => by
        obtain ⟨hc, hr, -⟩ := HH.out
        obtain ⟨p1, p2⟩ := hr.skip hB2 hno
        exact ⟨k + 1, by omega, by simp, fun c => by rw [p2 c]; exact hc c, p1⟩
      have HF := Lib.hid (And.intro hfin (And.intro hB2 (And.intro hbk hs2)))
      clear hfin hB2 hbk hs2
      by_cases hks : k = s
      · subst hks
        have hksb : (k : Int) = (k : Int) := rfl
        go_wp2_with fail
        exact ⟨HF.out.1 (fun h => h.1 rfl), by simp [intOf]; omega⟩
      · have hksb : ((k : Int) == (s : Int)) = false := by simp; omega
        by_cases his : r.is = true
        · by_cases hsm : s < m
          · have hsm1 : ¬ (m : Int) ≤ (s : Int) := by omega
            obtain ⟨b', off', ih, n', rr, rfl, hS', hbw', hv', hok', hrl', hrc', hr1, hr2, hr3, hr4, hr5, -⟩ := HH.out.2.2.2.1.at_ s hsm
            have d := row_below HF.out.2.1 (p := ⟨b', off' + s * 56 + 1, none⟩) hbw' 55
            have d3 := d.1.trans hr3
            have d4 := d.2.trans hr4
            have d5 : w2.cell? ⟨b', off' + s * 56, none⟩ = some (.bool ih) := (HF.out.2.1.cell (p := ⟨b', off' + s * 56, none⟩) hbw').trans hr5
            have hh : hasC l k s = if ih then some (.int .i64 n' :: rr) else none := by
              unfold hasC
              rw [HH.out.2.2.1]
              simp only [his, if_true, hv']
            obtain ⟨cc, hcc⟩ : ∃ cc, cc = Value.int .i64 n' :: rr := ⟨_, rfl⟩
            rw [← hcc] at hh d4 hok'
            have hl55 : cc.length = 55 := (okL_len hok').trans len_cellK
            have hc55 := okL_cell1 hok'
            have HX := Lib.hid (And.intro hh hok')
            clear d hr1 hr2 hr3 hr4 hr5 hv' hh hok' hrc' hcc
            cases ih with
            | false =>
              go_wp2_with fail
              exact ⟨HF.out.1 (fun h => by have := h.2; rw [HX.out.1] at this; cases this), by simp [intOf]; omega⟩
            | true =>
              go_upto_region 7 with fail
              have hB3 : Below wr.heap.size wr (w2.alloc (.cells cc.toArray 51)) := HF.out.2.1.alloc (by rw [HF.out.2.2.2]; omega) _
              have hbk3 : Blk (w2.alloc (.cells cc.toArray 51)) w2.heap.size 51 cc.toArray := Blk.new _ _ _
              generalize w2.alloc (.cells cc.toArray 51) = w3 at hB3 hbk3 ⊢
              obtain ⟨⟨es, clock, hmp, hmv⟩, hb0, hbel, hsz⟩ := HH.out.2.1
              have hsz3 := hB3.size
              have hcn := HH.out.1 cc
              obtain ⟨eb, wA, wB, es2, c2, e1, e2, e3, hm2', hv1, hv2, hc1, hc2⟩ := count_cell HX.out.2 (w := w3.drew) ((hmp.of_block (hB3.block _ (by omega))).of_block (w' := w3.drew) rfl)
              have hq16 : cntL s l k cc ≤ k := cntL_le s l cc k
              have hkn : cntL s l (k + 1) cc = cntL s l k cc + 1 := by
                show cntL s l k cc + _ = _
                rw [if_pos ⟨hks, by rw [HX.out.1]; rfl⟩]
              have hko : ∀ c, c ≠ cc → cntL s l (k + 1) c = cntL s l k c := fun c hc => by
                show cntL s l k c + _ = _
                rw [if_neg (fun h => hc (by have := h.2; rw [HX.out.1] at this; simpa using this.symm))]; rfl
              have hvB : ∀ c, valE es2 c = (cntL s l (k + 1) c : Int) := fun c => by
                by_cases h : c = cc
                · subst h; rw [hv1, hmv, hkn]; simp
                · rw [hv2 c h, hmv, hko c h]
              have e4 := look_cell HX.out.2 ((hmp.of_block (hB3.block _ (by omega))).of_block (w' := w3.drew) rfl)
              rw [hmv cc] at e1 e2 e3 e4
              have hB4 : Below w.heap.size w wB := by
                have h1 := hbel.trans ((hB3.mono (by omega)))
                exact ⟨hc2.os.trans h1.os, hc2.tape.trans h1.tape, hc2.output.trans h1.output, Nat.le_trans h1.size hc2.size, fun b hb => (hc2.block b (by have := h1.size; exact Nat.lt_of_lt_of_le hb this) (by omega)).trans (h1.block b hb)⟩
              have look := look_cell HX.out.2 hm2'
              rw [hvB cc, hkn] at look
              generalize hq : cntL s l k cc = q at hq16 hkn e1 e2 e3 e4 look hcn
              have hlt2 : w2.heap.size < w3.heap.size := hbk3.lt
              have hB0 : Blk wB w.heap.size 114 heldZ.toArray := by
                have h1 : Blk w3 w.heap.size 114 heldZ.toArray := hb0.below hB3 (by omega)
                exact (hc2.block _ h1.lt (by omega)).trans h1
              have hwr2 : w2.heap.size = wr.heap.size + 1 := HF.out.2.2.2
              have hbkA : Blk wA w2.heap.size 51 cc.toArray := (hc1.block _ hlt2 (by omega)).trans hbk3
              have hbkB : Blk wB w2.heap.size 51 cc.toArray := (hc2.block _ hlt2 (by omega)).trans hbk3
              obtain ⟨r1, r2, -⟩ := Blk.whole (w := w3.drew) (n := 55) hbk3 hl55
              obtain ⟨r3, r4, -⟩ := hbkB.whole (n := 55) hl55
              have hszB : w.heap.size + 1 + 1 ≤ wB.heap.size := by have := hc2.size; have : w3.drew.heap.size = w3.heap.size := rfl; omega
              have hmr : MR w s l (k + 1) wB := ⟨⟨es2, c2, hm2', hvB⟩, hB0, hB4, hszB⟩
              have k6 := hB0.put_all (l := Value.bool true :: cc) (by simp [hl55]; rfl)
              have hv56 : (Value.bool true :: cc).length = 56 := by simp [hl55]
              obtain ⟨p1, p2, -⟩ := k6.whole (n := 56) hv56
              obtain ⟨p3, p4, p5⟩ := hB0.whole (n := 56) len_heldZ
              have hBf := Below.put hB4 (p := ⟨w.heap.size, 0, none⟩) (Nat.le_refl _) (Value.bool true :: cc)
              have HZ := Lib.hid (And.intro hmr (And.intro p1 (And.intro p2 (And.intro hBf (And.intro hkn (And.intro hko hcn))))))
              have hc56 : (Value.bool true :: cc).all cell1 = true := by simp [hc55, cell1]
              clear hmr p1 p2 hBf k6 hB3 hbk3 hmp hmv hb0 hbel hsz hm2' hv1 hv2 hc1 hc2 hvB hB4 hB0 hbkA hbkB hkn hko hcn hq hwr2
              go_region
              rw [show ((q + 1 : Nat) : Int) = (q : Int) + 1 from by omega] at look
              by_cases hbig : (n : Int) - 1 < 2 * ((q : Int) + 1)
              · have hbigb : decide ((n : Int) - 1 < 2 * ((q : Int) + 1)) = true := by simpa using hbig
                go_wp2_with fail
                try simp only [Exit.inBlock, Exit.then]
                first | refine bodyPost_ret (ret_row (n := 56) rfl (by kernel_rfl) _ _ _ rfl ?_) rfl ?_ | refine bodyPost_end (ret_row (n := 56) rfl (by kernel_rfl) _ _ _ rfl ?_) rfl ?_
                · exact HZ.out.2.1
                · rw [HZ.out.2.2.1]
                  refine ⟨⟨true, cc⟩, rfl, .inl ⟨cc, rfl, HX.out.2, ?_⟩, HZ.out.2.2.2.1⟩
                  have h1 := cntL_mono s l cc (k := k + 1) (j := M) (by omega)
                  have h2 := HZ.out.2.2.2.2.1
                  omega
              · have hbigb : decide ((n : Int) - 1 < 2 * ((q : Int) + 1)) = false := by simpa using hbig
                have hno : ∀ c, 2 * cntL s l (k + 1) c ≤ n - 1 := fun c => by
                  by_cases h : c = cc
                  · subst h; rw [HZ.out.2.2.2.2.1]; omega
                  · rw [HZ.out.2.2.2.2.2.1 c h]; exact HH.out.1 c
                have HN := Lib.hid hno
                clear hno
                go_wp2_with fail
                exact ⟨⟨k + 1, by omega, by go_num, HN.out, HZ.out.1⟩, by simp [intOf]; omega⟩
          · have hsm1 : (m : Int) ≤ (s : Int) := by omega
            have hno : r.t[s]? = none := List.getElem?_eq_none (by rw [HH.out.2.2.2.2]; omega)
            have hh : hasC l k s = none := by
              unfold hasC
              rw [HH.out.2.2.1]
              simp only [his, if_true, hno]
            have HX := Lib.hid hh
            clear hh hno
            go_wp2_with fail
            exact ⟨HF.out.1 (fun h => by have := h.2; rw [HX.out] at this; cases this), by simp [intOf]; omega⟩
        · have hh : hasC l k s = none := by
            unfold hasC
            rw [HH.out.2.2.1]
            simp only [his, if_false]; rfl
          have HX := Lib.hid hh
          clear hh
          go_wp2_with fail
          exact ⟨HF.out.1 (fun h => by have := h.2; rw [HX.out] at this; cases this), by simp [intOf]; omega⟩
    · have hkM : k = M := by omega
      subst hkM
      have HC := Lib.hid hc
      obtain ⟨q1, q2, q3⟩ := hr.b0.whole (n := 56) len_heldZ
      have k6 := hr.b0.put_all (l := heldZ) rfl
      obtain ⟨p1, p2, -⟩ := k6.whole (n := 56) len_heldZ
      have hB := Below.put hr.bel (p := ⟨w.heap.size, 0, none⟩) (Nat.le_refl _) heldZ
      have HF := Lib.hid (And.intro p1 (And.intro p2 hB))
      have hz1 : heldZ.all cell1 = true := by kernel_rfl
      clear hc hr q1 q2 k6 p1 p2 hB
      go_wp2_with fail
      try simp only [Exit.inBlock, Exit.then]
      first | refine bodyPost_ret (ret_row (n := 56) rfl (by kernel_rfl) _ _ _ rfl ?_) rfl ?_ | refine bodyPost_end (ret_row (n := 56) rfl (by kernel_rfl) _ _ _ rfl ?_) rfl ?_
      · exact HF.out.1
      · rw [HF.out.2.1]
        exact ⟨hd0, by rw [hd0_vals], .inr ⟨rfl, HC.out⟩, HF.out.2.2⟩
end Go.Proofs.Ytbdklfcgcmdgaaa
