/-
  The reference's lane of chapter 14: the copies of a source.
-/
import Derived.Test.YtopakilglnpinaaGc18
import Derived.WalkSpells
namespace Go.Proofs.Ytopakilglnpinaa
open Go.RowKit
set_option linter.unusedVariables false
set_option linter.unusedSimpArgs false

/-- rows of the reference's, in a slice of the call's own -/
structure RowsO (w0 : World) (D : Nat → Prop) (ps : List (Rw × Value)) (v : Value) (w : World) : Prop where
  own : w.ownsRow w0.heap.size 74 57 v ps.length (flatP ps)
  ps : ∀ p ∈ ps, p.1.ok ∧ RowR D w0 p.1 p.2
  bel : Below w0.heap.size w0 w
section
variable {w0 : World} {D : Nat → Prop} {ps : List (Rw × Value)} {v v' : Value} {w w' w3 : World}
theorem RowsO.start (w : World) (D : Nat → Prop) : RowsO w D [] (.slice none 0 0) w := ⟨World.ownsRow_nil _ _ _ _, by simp, Below.refl _ _⟩
theorem RowsO.below (h : RowsO w0 D ps v w) (hb : Below w.heap.size w w') : RowsO w0 D ps v w' := ⟨own_block h.own fun b hbo => hb.block b (h.own.lt b hbo).2, h.ps, h.bel.trans (hb.mono h.bel.size)⟩
theorem RowsO.push (h : RowsO w0 D ps v w) {r : Rw} {tv : Value} (hr : r.ok ∧ RowR D w0 r tv) {o : Obj} (hg : (w.alloc o).grownBy w3 v.ownBlock) (ho : w3.ownsRow w0.heap.size 74 57 v' (ps.length + 1) (flatP ps ++ r.vals tv)) : RowsO w0 D (ps ++ [(r, tv)]) v' w3 := by
  refine ⟨?_, fun p hp => ?_, (h.bel.alloc h.bel.size _).grown hg (by have := h.bel.size; simp; omega) fun q hq => (h.own.lt q hq).1⟩
  · rw [List.length_append]
    simpa [flatP] using ho
  · rcases List.mem_append.1 hp with hp | hp
    · exact h.ps p hp
    · rw [List.mem_singleton.1 hp]; exact hr
/-- one of them, read -/
theorem RowsO.at_ (h : RowsO w0 D ps v w) {k : Nat} (hk : k < ps.length) : ∃ g cap r tv, v = .slice (some ⟨g, 0, none⟩) ps.length cap ∧ ps.length ≤ cap ∧ cap ≤ maxLen ∧ w0.heap.size ≤ g ∧ g < w.heap.size ∧ ps[k]? = some (r, tv) ∧ r.ok ∧ RowR D w0 r tv ∧ (r.vals tv).length = 57 ∧ (r.vals tv).all cell1 = true ∧ hasRow w ⟨g, k * 57, none⟩ 57 = true ∧ rowOf w ⟨g, k * 57, none⟩ 57 = r.vals tv := by
  rcases h.own.2 with ⟨-, h0⟩ | ⟨g, cap, cur, rfl, g1, g2, g3, g4, g5, g6⟩
  · omega
  · obtain ⟨⟨r, tv⟩, hp⟩ : ∃ p, ps[k]? = some p := ⟨_, List.getElem?_eq_getElem hk⟩
    obtain ⟨hok, hrow⟩ := h.ps _ (List.mem_of_getElem? hp)
    have hlen := Rw.len hok tv
    have hin : k * 57 + 57 ≤ ps.length * 57 := by
      have : (k + 1) * 57 ≤ ps.length * 57 := Nat.mul_le_mul_right _ (by omega)
      omega
    have hr := row_of_cells (w := w) (p := ⟨g, k * 57, none⟩) (l := r.vals tv) (fun j u hu => by
      have hj : j < 57 := by rw [← hlen]; exact (List.getElem?_eq_some_iff.1 hu).1
      rw [add_at, cell_of_row w g _ cur _ (0, 0) g2]
      have e1 : cur[k * 57 + j]? = (cur.toList.take (ps.length * 57))[k * 57 + j]? := by rw [List.getElem?_take, if_pos (by omega)]; simp
      rw [e1, g6, flatP_at (fun p hp => (h.ps p hp).1) hp hj, hu])
    rw [hlen] at hr
    exact ⟨g, cap, r, tv, rfl, g3, g4, g1, lt_of_some g2, hp, hok, hrow, hlen, hrow.cell1 hok, hr.1, hr.2⟩
end
/-- of the ways below k -/
def RfM.copK (M : RfM) (s t : Nat) : Nat → List Rw
  | 0 => []
  | k + 1 => M.copK s t k ++ ([M.hist (t + distM M.n M.me k s) (2 * k) s] ++ if 2 ≤ distM M.n M.me k s then [M.hist (t + distM M.n M.me k s) (2 * k + 1) s] else [])
theorem RfM.copK_two (M : RfM) (s t : Nat) : M.copK s t 2 = M.copies s t := by
  unfold RfM.copies RfM.copK RfM.copK RfM.copK
  simp
theorem RowR.back {D : Nat → Prop} {w w' : World} {r : Rw} {tv : Value} (h : RowR (fun b => D b ∧ b < w.heap.size) w' r tv) (hb : Below w.heap.size w w') : RowR D w r tv := by
  obtain ⟨x, m, cap, e, h1, h2, h3⟩ := h
  exact ⟨x, m, cap, e, ⟨h1.1, h1.2.1, fun k y hy => by
    obtain ⟨b, off, e, hS, hbl, k1, k2⟩ := h1.2.2 k y hy
    have := row_block (w := w) (w' := w') (n := 56) (p := ⟨b, off + k * 56, none⟩) (hb.block b hS.2)
    exact ⟨b, off, e, hS.1, hS.2, this.1.symm.trans k1, this.2.symm.trans k2⟩⟩, h2, h3⟩
theorem RfRd.low {D : Nat → Prop} {w : World} {lb : Nat} {M : RfM} {ao : Option Addr} {co gc cc : Nat} (h : RfRd D w lb M ao co gc cc) : RfRd (fun b => D b ∧ b < w.heap.size) w lb M ao co gc cc :=
  ⟨h.n, h.me, h.owns, h.come, h.rd.mono fun b hb hD => ⟨hD, hb⟩, fun j k hj hk => by
    obtain ⟨a, c, h1, h2, h3⟩ := h.ins j k hj hk
    exact ⟨a, c, h1, h2.mono fun b hb hD => ⟨hD, hb⟩, h3⟩, h.lt, h.le⟩
/-- a row of the lane's, asked for in a later world -/
def RRowA (D : Nat → Prop) (w0 : World) (r : Rw) (w : World) (e : Ending) (w' : World) : Prop := ∃ tv, e = .returned (.agg (r.vals tv).toArray) ∧ RowR D w0 r tv ∧ r.ok ∧ Below w.heap.size w w'
theorem rtrack_at {D : Nat → Prop} {w w' : World} {lb : Nat} {M : RfM} {ao : Option Addr} {co gc cc : Nat} (h : RfRd D w lb M ao co gc cc) (hb : Below w.heap.size w w') {s t : Nat} (hs : s < M.n) (ht : t < M.T) (cw : Bool) :
    Calls Try.prog 33 #[.pointer (some ⟨lb, 0, none⟩), .int .i64 s, .int .i64 t, .bool cw] w' (RRowA D w (M.hist t (if cw then 0 else 2) s) w') := by
  refine (rtrack_any (h.low.below hb) hs ht cw).mono ?_
  rintro e w'' ⟨tv, rfl, h1, h2, h3⟩
  exact ⟨tv, rfl, h1.back hb, h2, h3⟩
def RCopP (D : Nat → Prop) (l : List Rw) (w : World) (e : Ending) (w' : World) : Prop := ∃ ps v, e = .returned v ∧ RowsO w D ps v w' ∧ ps.map Prod.fst = l
theorem near_hist {M : RfM} {j s way : Nat} (hw : way < 2) (hs : s < M.n) (hd : 2 ≤ distM M.n M.me way s) : M.hist j (2 * way + 1) s = inRow M.n (M.ins j (2 * way)) s := by
  unfold RfM.hist
  rw [if_neg (by omega)]
  unfold momM sideM
  rw [show (2 * way + 1) / 2 = way from by omega, if_neg (by omega), if_neg (by omega), show (2 * way + 1) % 2 = 1 from by omega, if_neg (by decide)]
set_option maxRecDepth 100000 in
set_option maxHeartbeats 8000000 in
theorem rcopies_any {D : Nat → Prop} {w : World} {lb : Nat} {M : RfM} {ao : Option Addr} {co gc cc : Nat} (h : RfRd D w lb M ao co gc cc) {s t : Nat} (hs : s < M.n) (ht : t + M.n < M.T) :
    Calls Try.prog 40 #[.pointer (some ⟨lb, 0, none⟩), .int .i64 s, .int .i64 t] w (RCopP D (M.copies s t) w) := by
  obtain ⟨l1, l2, l3, l4, l5, l6, l7, l8⟩ := h.le
  have HR := Lib.hid h
  have hs1 : (s : Int) < M.n := by omega
  have hs0 : (0 : Int) ≤ s := by omega
  have ht0 : (0 : Int) ≤ t := by omega
  have HCE : Hid (∃ l, l = M.copies s t) := Lib.hid ⟨_, rfl⟩
  obtain ⟨cl, hcl⟩ := HCE.out
  have HCL := Lib.hid hcl
  rw [← hcl]
  clear h HCE hcl
  go_enter Try.func40, Try.ntmps40
  go_wp2_with fail
  go_loopw [7, 8] (fun s7 s8 wr => ∃ (k : Nat) (ps : List (Rw × Value)), k ≤ 2 ∧ s8 = .int .i64 k ∧ RowsO w D ps s7 wr ∧ ps.map Prod.fst = M.copK s t k ∧ ps.length ≤ 2 * k) (fun _ i _ => 2 - (intOf i).toNat)
  case atStart => exact ⟨0, [], by omega, rfl, RowsO.start w D, rfl, by simp⟩
  case round =>
    obtain ⟨k, ps, hk, rfl, ho, hps, hpl⟩ := hrel
    obtain ⟨wq, rfl⟩ : ∃ wq, wq = wr := ⟨_, rfl⟩
    have HO := Lib.hid ho
    have HPS := Lib.hid hps
    obtain ⟨v, rfl⟩ : ∃ v, v = u7 := ⟨_, rfl⟩
    have HPL := Lib.hid hpl
    clear ho hps hpl
    have FA : Hid (∀ w', Below w.heap.size w w' → w'.cell? ⟨lb, 0, none⟩ = some (.int .i64 M.n) ∧ w'.cell? ⟨lb, 1, none⟩ = some (.int .i64 M.me) ∧ w'.cell? ⟨lb, 4, none⟩ = some (.slice (some ⟨gc, 0, none⟩) M.T cc)) := Lib.hid fun w' hb => by
      have h2 := HR.out.below hb
      exact ⟨h2.n, h2.me, h2.come⟩
    by_cases hk2 : k < 2
    · have hk01 : k = 0 ∨ k = 1 := by omega
      rcases hk01 with rfl | rfl
      · obtain ⟨d, hd⟩ : ∃ d, d = distM M.n M.me 0 s := ⟨_, rfl⟩
        have hdn : d < M.n := by rw [hd]; exact distM_ltW (by omega)
        have HD := Lib.hid hd
        have HDI : Hid (∀ w', Calls Try.prog 46 #[.int .i64 M.n, .int .i64 M.me, .int .i64 s, .bool true] w' fun e w'' => e = .returned (.int .i64 d) ∧ w'' = w') := Lib.hid fun w' => by
          rw [hd]; exact rdistance_any M.n M.me s true w' l2 l3 l4 hs
        clear hd
        go_upto_region 5 with fail
        go_region_held3 (fun w' => w'.cell? ⟨lb, 0, none⟩ = some (.int .i64 M.n) ∧ w'.cell? ⟨lb, 1, none⟩ = some (.int .i64 M.me) ∧ w'.cell? ⟨lb, 4, none⟩ = some (.slice (some ⟨gc, 0, none⟩) M.T cc))
          (with_reducible (first | assumption | exact FA.out _ HO.out.bel.drew))
          ((first | ((with_reducible refine (HDI.out _).mono ?_); rintro e w2 ⟨rfl, rfl⟩)))
        have HO2 := Lib.hid (HO.out.below (Below.refl wq.heap.size wq).drew)
        generalize wq.drew = w2 at HO2 ⊢
        clear HO HDI
        obtain ⟨-, -, c4⟩ := FA.out w2 HO2.out.bel
        obtain ⟨at_, hat⟩ : ∃ at_, at_ = t + d := ⟨_, rfl⟩
        have hatT : at_ < M.T := by omega
        have e1 : (t : Int) + (d : Int) = (at_ : Int) := by omega
        have wr1 : IntKind.i64.wrap (at_ : Int) = at_ := IntWalk.i64_in _ (by omega)
        have g0 : (0 : Int) ≤ at_ := by omega
        have g1 : ¬ (at_ : Int) < 0 := by omega
        have g2 : (at_ : Int) < M.T := by omega
        have g3 : ¬ (M.T : Int) ≤ at_ := by omega
        have g4 : decide ((at_ : Int) < 0) = false := by simp
        have HAT := Lib.hid hat
        have HTR : Hid (Calls Try.prog 33 #[.pointer (some ⟨lb, 0, none⟩), .int .i64 s, .int .i64 at_, .bool true] w2 (RRowA D w (M.hist at_ 0 s) w2)) := Lib.hid (rtrack_at HR.out HO2.out.bel hs hatT true)
        clear hat
        go_wp2_with fail
        (with_reducible refine HTR.out.mono ?_)
        rintro e w3 ⟨tv, rfl, hrow, hok, hb3⟩
        have HO3 := Lib.hid (HO2.out.below hb3)
        obtain ⟨r1, hr1e⟩ : ∃ r1, r1 = M.hist at_ 0 s := ⟨_, rfl⟩
        rw [← hr1e] at hrow hok ⊢
        obtain ⟨rv1, hrv1⟩ : ∃ rv1, rv1 = r1.vals tv := ⟨_, rfl⟩
        rw [← hrv1]
        have hvl1 : rv1.length = 57 := by rw [hrv1]; exact Rw.len hok _
        have hvc1 : rv1.all cell1 = true := by rw [hrv1]; exact hrow.cell1 hok
        have HRT1 := Lib.hid (And.intro (And.intro hok hrow) hrv1.symm)
        have HR1 := Lib.hid hr1e
        clear hrow hok hrv1 hb3 HTR hr1e HO2 c4
        have hsz3 := HO3.out.bel.size
        have hpl1 : ps.length ≤ 2 := by have := HPL.out; omega
        go_upto_region 9 with (at_builtin; refine wpList_lies app_rrow (by rfl) (.tmp 41) (.tmp 48) (by rfl) w.heap.size _ _ _ (by rfl) (HO3.out.own.alloc _) ⟨w3.heap.size, 0, none⟩ 1 1 rv1 (by rfl) (by simp [hvl1]) (hasRow_new w3 _ _ 0 57 (by simp [hvl1])) ((rowOf_new w3 _ _ 0 57 (by simp [hvl1])).trans (List.take_of_length_le (by simp [hvl1]))) hvc1 (by omega) (by omega) (by simp; omega) ?_; intro gg1 cp1 w4 hown1 hgrow hlie; have HO4 := Lib.hid (HO3.out.push HRT1.out.1 hgrow (by rw [HRT1.out.2]; exact hown1)); clear hown1 hgrow hlie)
        obtain ⟨-, -, c4⟩ := FA.out w4 HO4.out.bel
        by_cases hd2 : 2 ≤ d
        · have hd3 : (2 : Int) ≤ d := by omega
          obtain ⟨wa, wac, hwc, hrdw, hwn, hwm⟩ := HR.out.ins at_ 0 hatT (by omega)
          obtain ⟨b, off, r2, tv2, rfl, hbl, hv, hok2, hvl2, hvc2, hrr1, hrr2, hrow2⟩ := hrdw.row_ hs
          have hre : M.hist at_ (1) s = r2 := by
            have e := near_hist (M := M) (j := at_) (way := 0) (by omega) hs (by rw [← HD.out]; exact hd2)
            rw [fillR_at M.n _ s hs] at hv
            exact e.trans (Option.some.inj hv)
          have y0 := (HO4.out.bel.cell (p := ⟨gc, at_ * 4 + 0, none⟩) HR.out.lt.2).trans hwc
          rw [Nat.add_zero] at y0
          have hl2 := row_below HO4.out.bel (p := ⟨b, off + s * 57, none⟩) hbl 57
          have x1 := hl2.1.trans hrr1
          have x2 := hl2.2.trans hrr2
          obtain ⟨rv2, hrv2⟩ : ∃ rv2, rv2 = r2.vals tv2 := ⟨_, rfl⟩
          rw [← hrv2] at x2 hvl2 hvc2
          have HRT2 := Lib.hid (And.intro (And.intro hok2 hrow2) hrv2.symm)
          have HR2 := Lib.hid hre
          clear hrdw hv hok2 hrr1 hrr2 hrow2 hrv2 hre hl2 hwc
          have hpl4 : (ps ++ [(r1, tv)]).length ≤ 4 := by simp; omega
          have hsz4 := HO4.out.bel.size
          go_wp2_with (at_builtin; refine wpList_lies app_rrow (by rfl) (.tmp 56) (.tmp 69) (by rfl) w.heap.size _ _ _ (by rfl) (HO4.out.own.alloc _) ⟨w4.heap.size, 0, none⟩ 1 1 rv2 (by rfl) (by simp [hvl2]) (hasRow_new w4 _ _ 0 57 (by simp [hvl2])) ((rowOf_new w4 _ _ 0 57 (by simp [hvl2])).trans (List.take_of_length_le (by simp [hvl2]))) hvc2 (by omega) (by omega) (by simp; omega) ?_; intro gg2 cp2 w5 hown1 hgrow hlie; have HO5 := Lib.hid (HO4.out.push HRT2.out.1 hgrow (by rw [HRT2.out.2]; exact hown1)); clear hown1 hgrow hlie)
          have HO6 : Hid (RowsO w D (ps ++ [(r1, tv)] ++ [(r2, tv2)]) (.slice (some ⟨gg2, 0, none⟩) (ps.length + 1 + 1) cp2) w5) := Lib.hid (by have h5 := HO5.out; rw [show (ps ++ [(r1, tv)]).length + 1 = ps.length + 1 + 1 from by simp] at h5; exact h5)
          have HE : Hid ((ps ++ [(r1, tv)] ++ [(r2, tv2)]).map Prod.fst = M.copK s t (0 + 1)) := Lib.hid (by
            rw [List.map_append, List.map_append, HPS.out]
            show _ = M.copK s t 0 ++ ([M.hist (t + distM M.n M.me 0 s) (2 * 0) s] ++ if 2 ≤ distM M.n M.me 0 s then [M.hist (t + distM M.n M.me 0 s) (2 * 0 + 1) s] else [])
            rw [← HD.out, ← HAT.out, if_pos hd2, ← HR1.out, HR2.out]
            simp)
          exact ⟨⟨0 + 1, ps ++ [(r1, tv)] ++ [(r2, tv2)], by omega, by go_num, HO6.out, HE.out, by have := HPL.out; rw [List.length_append, List.length_append]; simp only [List.length_cons, List.length_nil]; omega⟩, by simp [intOf]⟩
        · have hd3 : ¬ (2 : Int) ≤ d := by omega
          have HO6 := Lib.hid HO4.out
          have hd4 : decide ((2 : Int) ≤ d) = false := by simp; omega
          have HE : Hid ((ps ++ [(r1, tv)]).map Prod.fst = M.copK s t (0 + 1)) := Lib.hid (by
            rw [List.map_append, HPS.out]
            show _ = M.copK s t 0 ++ ([M.hist (t + distM M.n M.me 0 s) (2 * 0) s] ++ if 2 ≤ distM M.n M.me 0 s then [M.hist (t + distM M.n M.me 0 s) (2 * 0 + 1) s] else [])
            rw [← HD.out, ← HAT.out, if_neg hd2, ← HR1.out]
            simp)
          go_wp2_with fail
          exact ⟨⟨0 + 1, ps ++ [(r1, tv)], by omega, by go_num, HO6.out, HE.out, by have := HPL.out; rw [List.length_append]; simp only [List.length_cons, List.length_nil]; omega⟩, by simp [intOf]⟩
      · obtain ⟨d, hd⟩ : ∃ d, d = distM M.n M.me 1 s := ⟨_, rfl⟩
        have hdn : d < M.n := by rw [hd]; exact distM_ltW (by omega)
        have HD := Lib.hid hd
        have HDI : Hid (∀ w', Calls Try.prog 46 #[.int .i64 M.n, .int .i64 M.me, .int .i64 s, .bool false] w' fun e w'' => e = .returned (.int .i64 d) ∧ w'' = w') := Lib.hid fun w' => by
          rw [hd]; exact rdistance_any M.n M.me s false w' l2 l3 l4 hs
        clear hd
        go_upto_region 5 with fail
        go_region_held3 (fun w' => w'.cell? ⟨lb, 0, none⟩ = some (.int .i64 M.n) ∧ w'.cell? ⟨lb, 1, none⟩ = some (.int .i64 M.me) ∧ w'.cell? ⟨lb, 4, none⟩ = some (.slice (some ⟨gc, 0, none⟩) M.T cc))
          (with_reducible (first | assumption | exact FA.out _ HO.out.bel.drew))
          ((first | ((with_reducible refine (HDI.out _).mono ?_); rintro e w2 ⟨rfl, rfl⟩)))
        have HO2 := Lib.hid (HO.out.below (Below.refl wq.heap.size wq).drew)
        generalize wq.drew = w2 at HO2 ⊢
        clear HO HDI
        obtain ⟨-, -, c4⟩ := FA.out w2 HO2.out.bel
        obtain ⟨at_, hat⟩ : ∃ at_, at_ = t + d := ⟨_, rfl⟩
        have hatT : at_ < M.T := by omega
        have e1 : (t : Int) + (d : Int) = (at_ : Int) := by omega
        have wr1 : IntKind.i64.wrap (at_ : Int) = at_ := IntWalk.i64_in _ (by omega)
        have g0 : (0 : Int) ≤ at_ := by omega
        have g1 : ¬ (at_ : Int) < 0 := by omega
        have g2 : (at_ : Int) < M.T := by omega
        have g3 : ¬ (M.T : Int) ≤ at_ := by omega
        have g4 : decide ((at_ : Int) < 0) = false := by simp
        have HAT := Lib.hid hat
        have HTR : Hid (Calls Try.prog 33 #[.pointer (some ⟨lb, 0, none⟩), .int .i64 s, .int .i64 at_, .bool false] w2 (RRowA D w (M.hist at_ 2 s) w2)) := Lib.hid (rtrack_at HR.out HO2.out.bel hs hatT false)
        clear hat
        go_wp2_with fail
        (with_reducible refine HTR.out.mono ?_)
        rintro e w3 ⟨tv, rfl, hrow, hok, hb3⟩
        have HO3 := Lib.hid (HO2.out.below hb3)
        obtain ⟨r1, hr1e⟩ : ∃ r1, r1 = M.hist at_ 2 s := ⟨_, rfl⟩
        rw [← hr1e] at hrow hok ⊢
        obtain ⟨rv1, hrv1⟩ : ∃ rv1, rv1 = r1.vals tv := ⟨_, rfl⟩
        rw [← hrv1]
        have hvl1 : rv1.length = 57 := by rw [hrv1]; exact Rw.len hok _
        have hvc1 : rv1.all cell1 = true := by rw [hrv1]; exact hrow.cell1 hok
        have HRT1 := Lib.hid (And.intro (And.intro hok hrow) hrv1.symm)
        have HR1 := Lib.hid hr1e
        clear hrow hok hrv1 hb3 HTR hr1e HO2 c4
        have hsz3 := HO3.out.bel.size
        have hpl1 : ps.length ≤ 2 := by have := HPL.out; omega
        go_upto_region 9 with (at_builtin; refine wpList_lies app_rrow (by rfl) (.tmp 41) (.tmp 48) (by rfl) w.heap.size _ _ _ (by rfl) (HO3.out.own.alloc _) ⟨w3.heap.size, 0, none⟩ 1 1 rv1 (by rfl) (by simp [hvl1]) (hasRow_new w3 _ _ 0 57 (by simp [hvl1])) ((rowOf_new w3 _ _ 0 57 (by simp [hvl1])).trans (List.take_of_length_le (by simp [hvl1]))) hvc1 (by omega) (by omega) (by simp; omega) ?_; intro gg1 cp1 w4 hown1 hgrow hlie; have HO4 := Lib.hid (HO3.out.push HRT1.out.1 hgrow (by rw [HRT1.out.2]; exact hown1)); clear hown1 hgrow hlie)
        obtain ⟨-, -, c4⟩ := FA.out w4 HO4.out.bel
        by_cases hd2 : 2 ≤ d
        · have hd3 : (2 : Int) ≤ d := by omega
          obtain ⟨wa, wac, hwc, hrdw, hwn, hwm⟩ := HR.out.ins at_ 2 hatT (by omega)
          obtain ⟨b, off, r2, tv2, rfl, hbl, hv, hok2, hvl2, hvc2, hrr1, hrr2, hrow2⟩ := hrdw.row_ hs
          have hre : M.hist at_ (3) s = r2 := by
            have e := near_hist (M := M) (j := at_) (way := 1) (by omega) hs (by rw [← HD.out]; exact hd2)
            rw [fillR_at M.n _ s hs] at hv
            exact e.trans (Option.some.inj hv)
          have y0 := (HO4.out.bel.cell (p := ⟨gc, at_ * 4 + 2, none⟩) HR.out.lt.2).trans hwc
          have hl2 := row_below HO4.out.bel (p := ⟨b, off + s * 57, none⟩) hbl 57
          have x1 := hl2.1.trans hrr1
          have x2 := hl2.2.trans hrr2
          obtain ⟨rv2, hrv2⟩ : ∃ rv2, rv2 = r2.vals tv2 := ⟨_, rfl⟩
          rw [← hrv2] at x2 hvl2 hvc2
          have HRT2 := Lib.hid (And.intro (And.intro hok2 hrow2) hrv2.symm)
          have HR2 := Lib.hid hre
          clear hrdw hv hok2 hrr1 hrr2 hrow2 hrv2 hre hl2 hwc
          have hpl4 : (ps ++ [(r1, tv)]).length ≤ 4 := by simp; omega
          have hsz4 := HO4.out.bel.size
          go_wp2_with (at_builtin; refine wpList_lies app_rrow (by rfl) (.tmp 77) (.tmp 90) (by rfl) w.heap.size _ _ _ (by rfl) (HO4.out.own.alloc _) ⟨w4.heap.size, 0, none⟩ 1 1 rv2 (by rfl) (by simp [hvl2]) (hasRow_new w4 _ _ 0 57 (by simp [hvl2])) ((rowOf_new w4 _ _ 0 57 (by simp [hvl2])).trans (List.take_of_length_le (by simp [hvl2]))) hvc2 (by omega) (by omega) (by simp; omega) ?_; intro gg2 cp2 w5 hown1 hgrow hlie; have HO5 := Lib.hid (HO4.out.push HRT2.out.1 hgrow (by rw [HRT2.out.2]; exact hown1)); clear hown1 hgrow hlie)
          have HO6 : Hid (RowsO w D (ps ++ [(r1, tv)] ++ [(r2, tv2)]) (.slice (some ⟨gg2, 0, none⟩) (ps.length + 1 + 1) cp2) w5) := Lib.hid (by have h5 := HO5.out; rw [show (ps ++ [(r1, tv)]).length + 1 = ps.length + 1 + 1 from by simp] at h5; exact h5)
          have HE : Hid ((ps ++ [(r1, tv)] ++ [(r2, tv2)]).map Prod.fst = M.copK s t (1 + 1)) := Lib.hid (by
            rw [List.map_append, List.map_append, HPS.out]
            show _ = M.copK s t 1 ++ ([M.hist (t + distM M.n M.me 1 s) (2 * 1) s] ++ if 2 ≤ distM M.n M.me 1 s then [M.hist (t + distM M.n M.me 1 s) (2 * 1 + 1) s] else [])
            rw [← HD.out, ← HAT.out, if_pos hd2, ← HR1.out, HR2.out]
            simp)
          exact ⟨⟨1 + 1, ps ++ [(r1, tv)] ++ [(r2, tv2)], by omega, by go_num, HO6.out, HE.out, by have := HPL.out; rw [List.length_append, List.length_append]; simp only [List.length_cons, List.length_nil]; omega⟩, by simp [intOf]⟩
        · have hd3 : ¬ (2 : Int) ≤ d := by omega
          have HO6 := Lib.hid HO4.out
          have hd4 : decide ((2 : Int) ≤ d) = false := by simp; omega
          have HE : Hid ((ps ++ [(r1, tv)]).map Prod.fst = M.copK s t (1 + 1)) := Lib.hid (by
            rw [List.map_append, HPS.out]
            show _ = M.copK s t 1 ++ ([M.hist (t + distM M.n M.me 1 s) (2 * 1) s] ++ if 2 ≤ distM M.n M.me 1 s then [M.hist (t + distM M.n M.me 1 s) (2 * 1 + 1) s] else [])
            rw [← HD.out, ← HAT.out, if_neg hd2, ← HR1.out]
            simp)
          go_wp2_with fail
          exact ⟨⟨1 + 1, ps ++ [(r1, tv)], by omega, by go_num, HO6.out, HE.out, by have := HPL.out; rw [List.length_append]; simp only [List.length_cons, List.length_nil]; omega⟩, by simp [intOf]⟩
    · have hk3 : ¬ (k : Int) < 2 := by omega
      obtain rfl : k = 2 := by omega
      have HE : Hid (RCopP D cl w (.returned v) wq) := Lib.hid ⟨ps, v, rfl, HO.out, by rw [HPS.out, HCL.out, RfM.copK_two]⟩
      go_wp2_with fail
      go_ret
      exact HE.out
end Go.Proofs.Ytopakilglnpinaa
