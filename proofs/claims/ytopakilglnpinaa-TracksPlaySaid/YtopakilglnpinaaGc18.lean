/-
  The reference's lane of chapter 14: its track.
-/
import Derived.Test.YtopakilglnpinaaGc17
namespace Go.Proofs.Ytopakilglnpinaa
open Go.RowKit
set_option linter.unusedVariables false
set_option linter.unusedSimpArgs false

/-- a row of a slice of rows, read in a later world -/
theorem RdRs.row_ {D : Nat → Prop} {w : World} {a : Option Addr} {n : Nat} {l : List Rw} (h : RdRs D w a n l) {s : Nat} (hs : s < n) : ∃ b off r tv, a = some ⟨b, off, none⟩ ∧ b < w.heap.size ∧ l[s]? = some r ∧ r.ok ∧ (r.vals tv).length = 57 ∧ (r.vals tv).all cell1 = true ∧ hasRow w ⟨b, off + s * 57, none⟩ 57 = true ∧ rowOf w ⟨b, off + s * 57, none⟩ 57 = r.vals tv ∧ RowR D w r tv := by
  obtain ⟨r, hr⟩ : ∃ r, l[s]? = some r := ⟨_, List.getElem?_eq_getElem (by rw [h.1]; exact hs)⟩
  obtain ⟨b, off, x, m, cap, rfl, hD, hb, h1, h2, h3, h4, h5⟩ := h.2.2 s r hr
  have hok := h.2.1 r (List.mem_of_getElem? hr)
  have hrow : RowR D w r (.slice x m cap) := ⟨x, m, cap, rfl, h3, h4, h5⟩
  exact ⟨b, off, r, .slice x m cap, rfl, hb, hr, hok, Rw.len hok _, hrow.cell1 hok, h1, h2, hrow⟩
theorem rtrack_end {D : Nat → Prop} {w wk : World} {rb : Nat} {r : Rw} {tv : Value} (hb : Below w.heap.size w wk) (hk : Blk wk rb 74 rowZ.toArray) (hrb : w.heap.size ≤ rb) (hok : r.ok) (hrow : RowR D w r tv) :
    RRowP D r w (.returned (.agg (r.vals tv).toArray)) (putRow wk ⟨rb, 0, none⟩ (r.vals tv)) ∧ hasRow (putRow wk ⟨rb, 0, none⟩ (r.vals tv)) ⟨rb, 0, none⟩ 57 = true ∧ rowOf (putRow wk ⟨rb, 0, none⟩ (r.vals tv)) ⟨rb, 0, none⟩ 57 = r.vals tv ∧ canPut wk ⟨rb, 0, none⟩ 57 = true := by
  have hvl := Rw.len hok tv
  have hk2 := hk.put_all (l := r.vals tv) (by rw [len_rowZ, hvl])
  obtain ⟨k1, k2, -⟩ := hk2.whole hvl
  have hbf : Below w.heap.size w (putRow wk ⟨rb, 0, none⟩ (r.vals tv)) := Below.put hb (p := ⟨rb, 0, none⟩) hrb _
  exact ⟨⟨tv, rfl, hrow, hok, hbf⟩, k1, k2, (hk.whole len_rowZ).2.2⟩
set_option maxRecDepth 100000 in
set_option maxHeartbeats 4000000 in
theorem rtrack_any {D : Nat → Prop} {w : World} {lb : Nat} {M : RfM} {ao : Option Addr} {co gc cc : Nat} (h : RfRd D w lb M ao co gc cc) {s t : Nat} (hs : s < M.n) (ht : t < M.T) (cw : Bool) :
    Calls Try.prog 33 #[.pointer (some ⟨lb, 0, none⟩), .int .i64 s, .int .i64 t, .bool cw] w (RRowP D (M.hist t (if cw then 0 else 2) s) w) := by
  obtain ⟨l1, l2, l3, l4, l5, l6, l7, l8⟩ := h.le
  have HR := Lib.hid h
  have hs1 : (s : Int) < M.n := by omega
  have hs0 : (0 : Int) ≤ s := by omega
  have ht1 : (t : Int) < M.T := by omega
  have ht0 : (0 : Int) ≤ t := by omega
  have ht2 : ¬ (t : Int) < 0 := by omega
  have ht3 : ¬ (M.T : Int) ≤ t := by omega
  have ht4 : decide ((t : Int) < 0) = false := by simp
  have HB1 : Hid (Below w.heap.size w (w.alloc (.cells rowZ.toArray 74))) := Lib.hid ((Below.refl _ _).alloc (Nat.le_refl _) _)
  have HKR : Hid (Blk (w.alloc (.cells rowZ.toArray 74)) w.heap.size 74 rowZ.toArray) := Lib.hid (Blk.new _ _ _)
  obtain ⟨d, hd⟩ : ∃ d, d = distM M.n M.me (if cw then 0 else 1) s := ⟨_, rfl⟩
  have hdn : d < M.n := by rw [hd]; exact distM_ltW (by omega)
  have HDI : Hid (∀ w', Calls Try.prog 46 #[.int .i64 M.n, .int .i64 M.me, .int .i64 s, .bool cw] w' fun e w'' => e = .returned (.int .i64 d) ∧ w'' = w') := Lib.hid fun w' => by
    rw [hd]; exact rdistance_any M.n M.me s cw w' l2 l3 l4 hs
  have HH : Hid ((d = 0 → M.hist t (if cw then 0 else 2) s = M.own t) ∧ (d = 1 → M.hist t (if cw then 0 else 2) s = inRow M.n (M.ins t (if cw then 0 else 2)) s) ∧ (2 ≤ d → M.hist t (if cw then 0 else 2) s = inRow M.n (M.ins t (if cw then 1 else 3)) s)) := Lib.hid (by
    have hz := distM_zero (way := if cw then 0 else 1) l4 hs
    rw [← hd] at hz
    unfold RfM.hist
    refine ⟨fun h0 => ?_, fun h1 => ?_, fun h2 => ?_⟩
    · rw [if_pos ⟨by cases cw <;> rfl, hz.1 h0⟩]
    · rw [if_neg (fun hh => by have := hz.2 hh.2; omega)]
      unfold momM sideM
      cases cw <;> simp at hd ⊢ <;> rw [← hd, h1] <;> simp
    · rw [if_neg (fun hh => by have := hz.2 hh.2; omega)]
      unfold momM sideM
      cases cw <;> simp at hd ⊢ <;> rw [← hd, if_neg (by omega), if_neg (by omega)])
  obtain ⟨rr, hrr⟩ : ∃ rr, rr = M.hist t (if cw then 0 else 2) s := ⟨_, rfl⟩
  rw [← hrr] at HH ⊢
  clear h hd hrr
  go_enter Try.func33, Try.ntmps33
  go_upto_region 1 with fail
  generalize w.alloc (.cells rowZ.toArray 74) = w1 at HB1 HKR ⊢
  obtain ⟨rb, hrb⟩ : ∃ rb, rb = w.heap.size := ⟨_, rfl⟩
  rw [← hrb] at HKR ⊢
  have HRB := Lib.hid hrb
  have h1 := HR.out.below HB1.out
  have H1 := Lib.hid h1
  have FA : Hid (∀ w', Below w1.heap.size w1 w' → w'.cell? ⟨lb, 0, none⟩ = some (.int .i64 M.n) ∧ w'.cell? ⟨lb, 1, none⟩ = some (.int .i64 M.me) ∧ w'.cell? ⟨lb, 3, none⟩ = some (.slice ao M.T co) ∧ w'.cell? ⟨lb, 4, none⟩ = some (.slice (some ⟨gc, 0, none⟩) M.T cc)) := Lib.hid fun w' hb => by
    have h2 := H1.out.below hb
    exact ⟨h2.n, h2.me, h2.owns, h2.come⟩
  have c4 := h1.come
  clear hrb h1
  go_upto_region 3 with fail
  go_region_held3 (fun w' => w'.cell? ⟨lb, 0, none⟩ = some (.int .i64 M.n) ∧ w'.cell? ⟨lb, 1, none⟩ = some (.int .i64 M.me) ∧ w'.cell? ⟨lb, 3, none⟩ = some (.slice ao M.T co) ∧ w'.cell? ⟨lb, 4, none⟩ = some (.slice (some ⟨gc, 0, none⟩) M.T cc))
    (with_reducible (first | assumption | exact FA.out _ (Below.refl _ _).drew))
    ((first | ((with_reducible refine (HDI.out _).mono ?_); rintro e w2 ⟨rfl, rfl⟩)))
  have HB2 := Lib.hid ((Below.refl w1.heap.size w1).drew)
  have HKR2 := Lib.hid (HKR.out.below HB2.out HKR.out.lt)
  have H2 := Lib.hid (H1.out.below HB2.out)
  have HBW := Lib.hid (HB1.out.trans (HB2.out.mono HB1.out.size))
  generalize w1.drew = w2 at HB2 HKR2 H2 HBW ⊢
  clear HDI FA c4 HKR H1 HB1 HB2
  have c3 := H2.out.owns
  have c4 := H2.out.come
  have hrw : rb < w2.heap.size := HKR2.out.lt
  have hlb : lb < rb := by have := HR.out.lt.1; have := HRB.out; omega
  have hgb : gc < rb := by have := HR.out.lt.2; have := HRB.out; omega
  by_cases d0 : d = 0
  · have d0' : ((d : Int) == 0) = true := by simp; omega
    obtain ⟨b, off, r, tv, rfl, hbl, hv, hok, hvl, hvc, hr1, hr2, hrow⟩ := HR.out.rd.row_ ht
    have hre : M.own t = r := by simpa [List.getElem?_range ht] using hv
    obtain ⟨e1, e2, e3, e4⟩ := rtrack_end HBW.out HKR2.out (by rw [HRB.out]; exact Nat.le_refl _) hok hrow
    have hl2 := row_below HBW.out (p := ⟨b, off + t * 57, none⟩) hbl 57
    have g1 := hl2.1.trans hr1
    have g2 := hl2.2.trans hr2
    obtain ⟨rv, hrv⟩ : ∃ rv, rv = r.vals tv := ⟨_, rfl⟩
    rw [← hrv] at e1 e2 e3 g2 hvl hvc
    have HEND : Hid (RRowP D rr w (.returned (.agg rv.toArray)) (putRow w2 ⟨rb, 0, none⟩ rv) ∧ hasRow (putRow w2 ⟨rb, 0, none⟩ rv) ⟨rb, 0, none⟩ 57 = true ∧ rowOf (putRow w2 ⟨rb, 0, none⟩ rv) ⟨rb, 0, none⟩ 57 = rv) := Lib.hid ⟨by rw [HH.out.1 d0, hre]; exact e1, e2, e3⟩
    clear e1 e2 e3 hl2 hrow hr1 hr2 hre hrv hv hok d0
    go_wp2_with fail
    try simp only [Exit.inBlock, Exit.then]
    first | refine bodyPost_ret (ret_row (n := 57) rfl (by kernel_rfl) _ _ _ rfl ?_) rfl ?_ | refine bodyPost_end (ret_row (n := 57) rfl (by kernel_rfl) _ _ _ rfl ?_) rfl ?_
    · exact HEND.out.2.1
    · rw [HEND.out.2.2]; exact HEND.out.1
  · have d0' : ((d : Int) == 0) = false := by simp; omega
    have gw : ∀ k, k < 4 → ∃ a' c', hasRow w2 ⟨gc, t * 4 + k, none⟩ 1 = true ∧ rowOf w2 ⟨gc, t * 4 + k, none⟩ 1 = [.slice a' M.n c'] ∧ RdRs D w a' M.n (fillR M.n (M.ins t k)) ∧ M.n ≤ c' := fun k hk => by
      obtain ⟨a', c', h1, h2, h3, -⟩ := HR.out.ins t k ht hk
      have hc := (HBW.out.cell (p := ⟨gc, t * 4 + k, none⟩) HR.out.lt.2).trans h1
      have hh := row_of_cells (w := w2) (p := ⟨gc, t * 4 + k, none⟩) (l := [.slice a' M.n c']) (fun j v hv => by
        cases j with
        | zero => simp at hv; subst hv; simpa [add_at] using hc
        | succ j => simp at hv)
      exact ⟨a', c', hh.1, hh.2, h2, h3⟩
    obtain ⟨a0, k0, x0, y0, z0, m0⟩ := gw 0 (by omega)
    obtain ⟨a1, k1, x1, y1, z1, m1⟩ := gw 1 (by omega)
    obtain ⟨a2, k2, x2, y2, z2, m2⟩ := gw 2 (by omega)
    obtain ⟨a3, k3, x3, y3, z3, m3⟩ := gw 3 (by omega)
    rw [Nat.add_zero] at x0 y0
    have HZ := Lib.hid (And.intro z0 (And.intro z1 (And.intro z2 z3)))
    clear gw z0 z1 z2 z3
    go_upto_region 7 with fail
    have HB3 : Hid (Below w2.heap.size w2 (w2.alloc (.cells #[.slice a1 M.n k1] 63))) := Lib.hid ((Below.refl _ _).alloc (Nat.le_refl _) _)
    have HKW : Hid (Blk (w2.alloc (.cells #[.slice a1 M.n k1] 63)) w2.heap.size 63 [Value.slice a1 M.n k1].toArray) := Lib.hid (Blk.new _ _ _)
    generalize w2.alloc (.cells #[.slice a1 M.n k1] 63) = w3 at HB3 HKW ⊢
    have hw2 : w.heap.size ≤ w2.heap.size := HBW.out.size
    have FW : Hid (∀ w', Chg (· = w2.heap.size) w3 w' → Below w.heap.size w w' ∧ Blk w' rb 74 rowZ.toArray ∧ w'.cell? ⟨lb, 4, none⟩ = some (.slice (some ⟨gc, 0, none⟩) M.T cc) ∧ hasRow w' ⟨gc, t * 4, none⟩ 1 = true ∧ rowOf w' ⟨gc, t * 4, none⟩ 1 = [.slice a0 M.n k0] ∧ hasRow w' ⟨gc, t * 4 + 1, none⟩ 1 = true ∧ rowOf w' ⟨gc, t * 4 + 1, none⟩ 1 = [.slice a1 M.n k1] ∧ hasRow w' ⟨gc, t * 4 + 2, none⟩ 1 = true ∧ rowOf w' ⟨gc, t * 4 + 2, none⟩ 1 = [.slice a2 M.n k2] ∧ hasRow w' ⟨gc, t * 4 + 3, none⟩ 1 = true ∧ rowOf w' ⟨gc, t * 4 + 3, none⟩ 1 = [.slice a3 M.n k3]) := Lib.hid fun w' hc => by
      have hb : Below w2.heap.size w2 w' := HB3.out.trans (hc.below (by have := HB3.out.size; omega) fun b hb => by have : b = w2.heap.size := hb; omega)
      have r0 := row_below hb (p := ⟨gc, t * 4, none⟩) (by show gc < _; omega) 1
      have r1 := row_below hb (p := ⟨gc, t * 4 + 1, none⟩) (by show gc < _; omega) 1
      have r2 := row_below hb (p := ⟨gc, t * 4 + 2, none⟩) (by show gc < _; omega) 1
      have r3 := row_below hb (p := ⟨gc, t * 4 + 3, none⟩) (by show gc < _; omega) 1
      exact ⟨HBW.out.trans (hb.mono hw2), HKR2.out.below hb HKR2.out.lt, (hb.cell (p := ⟨lb, 4, none⟩) (by show lb < _; omega)).trans c4, r0.1.trans x0, r0.2.trans y0, r1.1.trans x1, r1.2.trans y1, r2.1.trans x2, r2.2.trans y2, r3.1.trans x3, r3.2.trans y3⟩
    obtain ⟨wb, hwb⟩ : ∃ wb, wb = w2.heap.size := ⟨_, rfl⟩
    rw [← hwb] at HKW FW ⊢
    have hrwb : rb < wb := by omega
    clear x0 y0 x1 y1 x2 y2 x3 y3 c3 c4 hwb
    have cp : canPut w3 ⟨wb, 0, none⟩ 1 = true := (HKW.out.whole rfl).2.2
    obtain ⟨-, -, c4, x0, y0, x1, y1, x2, y2, x3, y3⟩ := FW.out w3 (Chg.refl _ _)
    have HC3 : Hid (Chg (· = wb) w3 w3) := Lib.hid (Chg.refl _ _)
    by_cases d1 : d = 1
    · have d1' : ((d : Int) == 1) = true := by simp; omega
      have HD := Lib.hid d1
      clear d1
      go_upto_region 9 with fail
      have HC4 := Lib.hid (HC3.out.put (p := ⟨wb, 0, none⟩) (.inl rfl) [.slice a0 M.n k0])
      have HKW4 := Lib.hid (HKW.out.put_all (l := [.slice a0 M.n k0]) rfl)
      generalize putRow w3 ⟨wb, 0, none⟩ [.slice a0 M.n k0] = w4 at HC4 HKW4 ⊢
      clear cp c4 x0 y0 x1 y1 x2 y2 x3 y3
      have cp : canPut w4 ⟨wb, 0, none⟩ 1 = true := (HKW4.out.whole rfl).2.2
      obtain ⟨-, -, c4, x0, y0, x1, y1, x2, y2, x3, y3⟩ := FW.out w4 HC4.out
      cases cw with
      | true =>
        go_upto_region 13 with fail
        obtain ⟨b, off, r, tv, rfl, hbl, hv, hok, hvl, hvc, hr1, hr2, hrow⟩ := HZ.out.1.row_ hs
        have hre : rr = r := by
          have e := (HH.out.2.1 HD.out)
          rw [fillR_at M.n _ s hs] at hv
          exact e.trans (Option.some.inj hv)
        obtain ⟨hbx, hkx, -⟩ := FW.out w4 HC4.out
        have s1 : w4.cell? ⟨wb, 0, none⟩ = some (.slice (some ⟨b, off, none⟩) M.n k0) := HKW4.out.cell 0
        obtain ⟨e1, e2, e3, e4⟩ := rtrack_end hbx hkx (by rw [HRB.out]; exact Nat.le_refl _) hok hrow
        have hl2 := row_below hbx (p := ⟨b, off + s * 57, none⟩) hbl 57
        have g1 := hl2.1.trans hr1
        have g2 := hl2.2.trans hr2
        obtain ⟨rv, hrv⟩ : ∃ rv, rv = r.vals tv := ⟨_, rfl⟩
        rw [← hrv] at e1 e2 e3 g2 hvl hvc
        have HEND : Hid (RRowP D rr w (.returned (.agg rv.toArray)) (putRow w4 ⟨rb, 0, none⟩ rv) ∧ hasRow (putRow w4 ⟨rb, 0, none⟩ rv) ⟨rb, 0, none⟩ 57 = true ∧ rowOf (putRow w4 ⟨rb, 0, none⟩ rv) ⟨rb, 0, none⟩ 57 = rv) := Lib.hid ⟨by rw [hre]; exact e1, e2, e3⟩
        clear e1 e2 e3 hl2 hrow hr1 hr2 hre hrv hv hok hbx hkx
        go_wp2_with fail
        try simp only [Exit.inBlock, Exit.then]
        first | refine bodyPost_ret (ret_row (n := 57) rfl (by kernel_rfl) _ _ _ rfl ?_) rfl ?_ | refine bodyPost_end (ret_row (n := 57) rfl (by kernel_rfl) _ _ _ rfl ?_) rfl ?_
        · exact HEND.out.2.1
        · rw [HEND.out.2.2]; exact HEND.out.1
      | false =>
        go_upto_region 11 with fail
        have HC5 := Lib.hid (HC4.out.put (p := ⟨wb, 0, none⟩) (.inl rfl) [.slice a3 M.n k3])
        have HKW5 := Lib.hid (HKW4.out.put_all (l := [.slice a3 M.n k3]) rfl)
        generalize putRow w4 ⟨wb, 0, none⟩ [.slice a3 M.n k3] = w5 at HC5 HKW5 ⊢
        clear cp c4 x0 y0 x1 y1 x2 y2 x3 y3
        have cp : canPut w5 ⟨wb, 0, none⟩ 1 = true := (HKW5.out.whole rfl).2.2
        obtain ⟨-, -, c4, x0, y0, x1, y1, x2, y2, x3, y3⟩ := FW.out w5 HC5.out
        go_upto_region 13 with fail
        have HC6 := Lib.hid (HC5.out.put (p := ⟨wb, 0, none⟩) (.inl rfl) [.slice a2 M.n k2])
        have HKW6 := Lib.hid (HKW5.out.put_all (l := [.slice a2 M.n k2]) rfl)
        generalize putRow w5 ⟨wb, 0, none⟩ [.slice a2 M.n k2] = w6 at HC6 HKW6 ⊢
        clear cp c4 x0 y0 x1 y1 x2 y2 x3 y3
        have cp : canPut w6 ⟨wb, 0, none⟩ 1 = true := (HKW6.out.whole rfl).2.2
        obtain ⟨-, -, c4, x0, y0, x1, y1, x2, y2, x3, y3⟩ := FW.out w6 HC6.out
        obtain ⟨b, off, r, tv, rfl, hbl, hv, hok, hvl, hvc, hr1, hr2, hrow⟩ := HZ.out.2.2.1.row_ hs
        have hre : rr = r := by
          have e := (HH.out.2.1 HD.out)
          rw [fillR_at M.n _ s hs] at hv
          exact e.trans (Option.some.inj hv)
        obtain ⟨hbx, hkx, -⟩ := FW.out w6 HC6.out
        have s1 : w6.cell? ⟨wb, 0, none⟩ = some (.slice (some ⟨b, off, none⟩) M.n k2) := HKW6.out.cell 0
        obtain ⟨e1, e2, e3, e4⟩ := rtrack_end hbx hkx (by rw [HRB.out]; exact Nat.le_refl _) hok hrow
        have hl2 := row_below hbx (p := ⟨b, off + s * 57, none⟩) hbl 57
        have g1 := hl2.1.trans hr1
        have g2 := hl2.2.trans hr2
        obtain ⟨rv, hrv⟩ : ∃ rv, rv = r.vals tv := ⟨_, rfl⟩
        rw [← hrv] at e1 e2 e3 g2 hvl hvc
        have HEND : Hid (RRowP D rr w (.returned (.agg rv.toArray)) (putRow w6 ⟨rb, 0, none⟩ rv) ∧ hasRow (putRow w6 ⟨rb, 0, none⟩ rv) ⟨rb, 0, none⟩ 57 = true ∧ rowOf (putRow w6 ⟨rb, 0, none⟩ rv) ⟨rb, 0, none⟩ 57 = rv) := Lib.hid ⟨by rw [hre]; exact e1, e2, e3⟩
        clear e1 e2 e3 hl2 hrow hr1 hr2 hre hrv hv hok hbx hkx
        go_wp2_with fail
        try simp only [Exit.inBlock, Exit.then]
        first | refine bodyPost_ret (ret_row (n := 57) rfl (by kernel_rfl) _ _ _ rfl ?_) rfl ?_ | refine bodyPost_end (ret_row (n := 57) rfl (by kernel_rfl) _ _ _ rfl ?_) rfl ?_
        · exact HEND.out.2.1
        · rw [HEND.out.2.2]; exact HEND.out.1
    · have d1' : ((d : Int) == 1) = false := by simp; omega
      have HD : Hid (2 ≤ d) := Lib.hid (by omega)
      clear d1
      cases cw with
      | true =>
        go_upto_region 13 with fail
        obtain ⟨b, off, r, tv, rfl, hbl, hv, hok, hvl, hvc, hr1, hr2, hrow⟩ := HZ.out.2.1.row_ hs
        have hre : rr = r := by
          have e := (HH.out.2.2 HD.out)
          rw [fillR_at M.n _ s hs] at hv
          exact e.trans (Option.some.inj hv)
        obtain ⟨hbx, hkx, -⟩ := FW.out w3 HC3.out
        have s1 : w3.cell? ⟨wb, 0, none⟩ = some (.slice (some ⟨b, off, none⟩) M.n k1) := HKW.out.cell 0
        obtain ⟨e1, e2, e3, e4⟩ := rtrack_end hbx hkx (by rw [HRB.out]; exact Nat.le_refl _) hok hrow
        have hl2 := row_below hbx (p := ⟨b, off + s * 57, none⟩) hbl 57
        have g1 := hl2.1.trans hr1
        have g2 := hl2.2.trans hr2
        obtain ⟨rv, hrv⟩ : ∃ rv, rv = r.vals tv := ⟨_, rfl⟩
        rw [← hrv] at e1 e2 e3 g2 hvl hvc
        have HEND : Hid (RRowP D rr w (.returned (.agg rv.toArray)) (putRow w3 ⟨rb, 0, none⟩ rv) ∧ hasRow (putRow w3 ⟨rb, 0, none⟩ rv) ⟨rb, 0, none⟩ 57 = true ∧ rowOf (putRow w3 ⟨rb, 0, none⟩ rv) ⟨rb, 0, none⟩ 57 = rv) := Lib.hid ⟨by rw [hre]; exact e1, e2, e3⟩
        clear e1 e2 e3 hl2 hrow hr1 hr2 hre hrv hv hok hbx hkx
        go_wp2_with fail
        try simp only [Exit.inBlock, Exit.then]
        first | refine bodyPost_ret (ret_row (n := 57) rfl (by kernel_rfl) _ _ _ rfl ?_) rfl ?_ | refine bodyPost_end (ret_row (n := 57) rfl (by kernel_rfl) _ _ _ rfl ?_) rfl ?_
        · exact HEND.out.2.1
        · rw [HEND.out.2.2]; exact HEND.out.1
      | false =>
        go_upto_region 11 with fail
        have HC5 := Lib.hid (HC3.out.put (p := ⟨wb, 0, none⟩) (.inl rfl) [.slice a3 M.n k3])
        have HKW5 := Lib.hid (HKW.out.put_all (l := [.slice a3 M.n k3]) rfl)
        generalize putRow w3 ⟨wb, 0, none⟩ [.slice a3 M.n k3] = w5 at HC5 HKW5 ⊢
        clear cp c4 x0 y0 x1 y1 x2 y2 x3 y3
        have cp : canPut w5 ⟨wb, 0, none⟩ 1 = true := (HKW5.out.whole rfl).2.2
        obtain ⟨-, -, c4, x0, y0, x1, y1, x2, y2, x3, y3⟩ := FW.out w5 HC5.out
        go_upto_region 13 with fail
        obtain ⟨b, off, r, tv, rfl, hbl, hv, hok, hvl, hvc, hr1, hr2, hrow⟩ := HZ.out.2.2.2.row_ hs
        have hre : rr = r := by
          have e := (HH.out.2.2 HD.out)
          rw [fillR_at M.n _ s hs] at hv
          exact e.trans (Option.some.inj hv)
        obtain ⟨hbx, hkx, -⟩ := FW.out w5 HC5.out
        have s1 : w5.cell? ⟨wb, 0, none⟩ = some (.slice (some ⟨b, off, none⟩) M.n k3) := HKW5.out.cell 0
        obtain ⟨e1, e2, e3, e4⟩ := rtrack_end hbx hkx (by rw [HRB.out]; exact Nat.le_refl _) hok hrow
        have hl2 := row_below hbx (p := ⟨b, off + s * 57, none⟩) hbl 57
        have g1 := hl2.1.trans hr1
        have g2 := hl2.2.trans hr2
        obtain ⟨rv, hrv⟩ : ∃ rv, rv = r.vals tv := ⟨_, rfl⟩
        rw [← hrv] at e1 e2 e3 g2 hvl hvc
        have HEND : Hid (RRowP D rr w (.returned (.agg rv.toArray)) (putRow w5 ⟨rb, 0, none⟩ rv) ∧ hasRow (putRow w5 ⟨rb, 0, none⟩ rv) ⟨rb, 0, none⟩ 57 = true ∧ rowOf (putRow w5 ⟨rb, 0, none⟩ rv) ⟨rb, 0, none⟩ 57 = rv) := Lib.hid ⟨by rw [hre]; exact e1, e2, e3⟩
        clear e1 e2 e3 hl2 hrow hr1 hr2 hre hrv hv hok hbx hkx
        go_wp2_with fail
        try simp only [Exit.inBlock, Exit.then]
        first | refine bodyPost_ret (ret_row (n := 57) rfl (by kernel_rfl) _ _ _ rfl ?_) rfl ?_ | refine bodyPost_end (ret_row (n := 57) rfl (by kernel_rfl) _ _ _ rfl ?_) rfl ?_
        · exact HEND.out.2.1
        · rw [HEND.out.2.2]; exact HEND.out.1
end Go.Proofs.Ytopakilglnpinaa
