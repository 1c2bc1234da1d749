/-
  words.Same, sennitref13.Same. tracks.certified.
-/
import Derived.Test.YtnckfjmaochnkaaGreatDoorGd11
import Derived.Test.YtnckfjmaochnkaaGreatDoorGd09
namespace Go.Proofs.YtnckfjmaochnkaaGreatDoor
open Go.RowKit
set_option linter.unusedVariables false
set_option linter.unusedSimpArgs false

theorem Rw.eq_iff {r r' : Rw} : r = r' ↔ r.is = r'.is ∧ r.c = r'.c ∧ r.t = r'.t := by cases r; cases r'; simp
/-- two rows boxed: what a walk reads -/
structure R2 (w : World) (t t' : TypeId) (r r' : Rw) (tv tv' : Value) (w0 : World) : Prop where
  b0 : Blk w0 w.heap.size t (r.vals tv).toArray
  b1 : Blk w0 (w.heap.size + 1) t' (r'.vals tv').toArray
  bel : Below w.heap.size w w0
  sz : w0.heap.size = w.heap.size + 1 + 1
theorem R2.start (w : World) (t t' : TypeId) (r r' : Rw) (tv tv' : Value) : R2 w t t' r r' tv tv' ((w.alloc (.cells (r.vals tv).toArray t)).alloc (.cells (r'.vals tv').toArray t')) :=
  ⟨(Blk.new _ _ _).alloc _, new1 _ _ _ _, ((Below.refl _ _).alloc (Nat.le_refl _) _).alloc (by simp) _, by simp⟩
theorem blk_row {w : World} {g : Nat} {t : TypeId} {r : Rw} {tv : Value} (h : Blk w g t (r.vals tv).toArray) (hr : r.ok) :
    w.cell? ⟨g, 0, none⟩ = some (.bool r.is) ∧ hasRow w ⟨g, 1, none⟩ 55 = true ∧ rowOf w ⟨g, 1, none⟩ 55 = r.c ∧ w.cell? ⟨g, 56, none⟩ = some tv ∧ hasRow w ⟨g, 0, none⟩ 57 = true ∧ rowOf w ⟨g, 0, none⟩ 57 = r.vals tv ∧ (∀ i, w.frozen? ⟨g, i, none⟩ = false) := by
  have hl := Rw.len hr tv
  have hcl : r.c.length = 55 := (okL_len hr.1).trans len_cellK
  obtain ⟨h1, h2, h3, h4, h5⟩ := h.rules
  obtain ⟨q1, q2, -⟩ := h.whole hl
  refine ⟨by rw [h1]; rfl, by rw [h3, hl]; rfl, ?_, ?_, q1, q2, h2⟩
  · rw [h4 _ _ (by omega)]; simp [Rw.vals, ← hcl]
  · rw [h1]; simp [Rw.vals, List.getElem?_append, hcl]

open Classical in
set_option maxRecDepth 100000 in
set_option maxHeartbeats 1000000 in
theorem same_any (S S' : Nat → Prop) (r r' : Rw) (hr : r.ok) (hr' : r'.ok) (tv tv' : Value) (w : World) (ht : RowR S w r tv) (ht' : RowR S' w r' tv') :
    Calls Tryz.prog 136 #[.agg (r.vals tv).toArray, .agg (r'.vals tv').toArray] w fun e w' => e = .returned (.bool (decide (r = r'))) ∧ Below w.heap.size w w' := by
  obtain ⟨q, hq⟩ : ∃ q, q = decide (r = r') := ⟨_, rfl⟩
  rw [← hq]
  have HQ := Lib.hid hq
  have hst := R2.start w 118 118 r r' tv tv'
  obtain ⟨x, m, cap, rfl, t1, t2, t3⟩ := ht
  obtain ⟨x', m', cap', rfl, t1', t2', t3'⟩ := ht'
  go_enter Tryz.func136, Tryz.ntmps136
  go_upto_region 1 with fail
  generalize ((w.alloc (.cells (r.vals (.slice x m cap)).toArray 118)).alloc (.cells (r'.vals (.slice x' m' cap')).toArray 118)) = w0 at hst ⊢
  obtain ⟨f0, f1, f2, f3, -⟩ := blk_row hst.b0 hr
  obtain ⟨k0, k1, k2, k3, -⟩ := blk_row hst.b1 hr'
  have hE := equal_any S S' x x' m m' cap cap' r.t r'.t w0 (t1.below hst.bel (fun _ _ h => h)) (t1'.below hst.bel (fun _ _ h => h)) (by omega) (by omega)
  have hc := hr.1
  have hc' := hr'.1
  have H := Lib.hid (And.intro hE hst)
  clear hE hst t1 t1' hq hr hr'
  obtain ⟨is, c, t⟩ := r
  obtain ⟨is', c', t'⟩ := r'
  simp only at f0 f1 f2 f3 k0 k1 k2 k3 hc hc' H HQ
  by_cases h1 : is = is'
  · subst h1
    have hb : (is == is) = true := by simp
    by_cases h2 : c = c'
    · subst h2
      have e : q = decide (t = t') := by rw [HQ.out]; simp
      have HE := Lib.hid e
      clear e
      go_wp2_with fail
      refine H.out.1.mono ?_
      rintro e w1 ⟨rfl, hb1⟩
      have HB := Lib.hid (H.out.2.bel.trans (hb1.mono H.out.2.bel.size))
      clear hb1
      rw [← HE.out]
      go_wp2_with fail
      go_ret
      exact ⟨rfl, HB.out⟩
    · have e : q = false := by rw [HQ.out, decide_eq_false_iff_not, Rw.eq_iff]; simp [h2]
      have HE := Lib.hid e
      clear e
      go_wp2_with fail
      go_ret
      exact ⟨by rw [HE.out]; rfl, H.out.2.bel⟩
  · have e : q = false := by rw [HQ.out, decide_eq_false_iff_not, Rw.eq_iff]; simp [h1]
    have HE := Lib.hid e
    have hb : (is == is') = false := by simpa using h1
    clear e
    go_wp2_with fail
    go_ret
    exact ⟨by rw [HE.out]; rfl, H.out.2.bel⟩

end Go.Proofs.YtnckfjmaochnkaaGreatDoor
namespace Go.Proofs.YtnckfjmaochnkaaGreatDoor
open Go.RowKit
set_option linter.unusedVariables false
set_option linter.unusedSimpArgs false

/-- the pairs that are left: of the k-th row, from the m-th one ahead of it on -/
def restO (l : List Rw) (k : Nat) : List (Rw × Rw) := ((List.range l.length).drop k).flatMap (prsAt l)
def restN (l : List Rw) (k : Nat) (r : Rw) (m : Nat) : List (Rw × Rw) := ((l.take k).drop m).map (fun o => (r, o)) ++ restO l (k + 1)
theorem restO_step {l : List Rw} {k : Nat} {r : Rw} (hr : l[k]? = some r) : restO l k = restN l k r 0 := by
  have hk := (List.getElem?_eq_some_iff.1 hr).1
  unfold restO restN
  rw [List.drop_eq_getElem_cons (by simpa using hk), List.flatMap_cons]
  have e : l.getD k rw0 = r := by rw [List.getD_eq_getElem?_getD, hr]; rfl
  have e0 : prsAt l k = (l.take k).map (fun o => (r, o)) := by unfold prsAt; rw [e]
  rw [List.getElem_range, e0, List.drop_zero]; rfl
theorem restN_step {l : List Rw} {k m : Nat} {r o : Rw} (hm : m < k) (hk : k ≤ l.length) (ho : l[m]? = some o) : restN l k r m = (r, o) :: restN l k r (m + 1) := by
  unfold restN
  have hl : m < (l.take k).length := by rw [List.length_take]; omega
  have e : (l.take k)[m] = o := by
    rw [List.getElem_take]
    exact Option.some.inj ((List.getElem?_eq_getElem (by omega)).symm.trans ho)
  rw [List.drop_eq_getElem_cons hl, e]; rfl
theorem restN_end (l : List Rw) (k : Nat) (r : Rw) : restN l k r k = restO l (k + 1) := by
  unfold restN
  rw [List.drop_eq_nil_of_le (by rw [List.length_take]; omega)]; rfl
theorem restO_zero (l : List Rw) : restO l 0 = prs l := rfl
theorem restO_end (l : List Rw) : restO l l.length = [] := by
  unfold restO
  rw [List.drop_eq_nil_of_le (by simp)]; rfl

structure CertO (S : Nat → Prop) (w : World) (l : List Rw) (k : Nat) (out : Rw) (tv : Value) (wr : World) : Prop where
  b : Blk wr w.heap.size 118 (out.vals tv).toArray
  t : RowR S wr out tv
  bel : Below w.heap.size w wr
  ok : out.ok
  c : certM l = certF (restO l k) out
structure CertN (S : Nat → Prop) (w : World) (l : List Rw) (k m rb : Nat) (r : Rw) (tvr : Value) (out : Rw) (tv : Value) (wr : World) : Prop where
  b : Blk wr w.heap.size 118 (out.vals tv).toArray
  t : RowR S wr out tv
  br : Blk wr rb 118 (r.vals tvr).toArray
  tr : RowR S wr r tvr
  bel : Below w.heap.size w wr
  ok : out.ok
  c : certM l = certF (restN l k r m) out
theorem CertN.below {S : Nat → Prop} {w : World} {l : List Rw} {k m rb : Nat} {r : Rw} {tvr : Value} {out : Rw} {tv : Value} {wr w' : World} (h : CertN S w l k m rb r tvr out tv wr) (hb : Below wr.heap.size wr w') : CertN S w l k m rb r tvr out tv w' :=
  ⟨h.b.below hb h.b.lt, h.t.below hb, h.br.below hb h.br.lt, h.tr.below hb, h.bel.trans (hb.mono h.bel.size), h.ok, h.c⟩
theorem CertN.skip {S : Nat → Prop} {w : World} {l : List Rw} {k m rb : Nat} {r o : Rw} {tvr : Value} {out : Rw} {tv : Value} {wr : World} (h : CertN S w l k m rb r tvr out tv wr) (hm : m < k) (hk : k ≤ l.length) (ho : l[m]? = some o) (hne : ¬ (r.is = true ∧ r = o)) :
    CertN S w l k (m + 1) rb r tvr out tv wr := ⟨h.b, h.t, h.br, h.tr, h.bel, h.ok, by rw [h.c, restN_step hm hk ho, certF, if_neg hne]⟩
theorem CertN.take {S : Nat → Prop} {w : World} {l : List Rw} {k m rb : Nat} {r o : Rw} {tvr : Value} {out : Rw} {tv : Value} {wr : World} (h : CertN S w l k m rb r tvr out tv wr) (hm : m < k) (hk : k ≤ l.length) (ho : l[m]? = some o) (he : r.is = true ∧ r = o) (hn : ¬ (out.is = true ∧ out ≠ r))
    (hS : ∀ b, S b → b < w.heap.size) (hr : r.ok) (hne : rb ≠ w.heap.size) : CertN S w l k (m + 1) rb r tvr r tvr (putRow wr ⟨w.heap.size, 0, none⟩ (r.vals tvr)) := by
  have hc := (Chg.refl (· = w.heap.size) wr).put (p := ⟨w.heap.size, 0, none⟩) (.inl rfl) (r.vals tvr)
  have hbl := h.b.put_all (l := r.vals tvr) (by rw [Rw.len h.ok, Rw.len hr])
  have ht := h.tr.keep hc.size (fun b hb hl => hc.block b hl (fun e => by have := hS b hb; omega))
  exact ⟨hbl, ht, h.br.chg hc hne, ht, Below.put h.bel (p := ⟨w.heap.size, 0, none⟩) (Nat.le_refl _) _, hr, by rw [h.c, restN_step hm hk ho, certF, if_pos he, if_neg hn]⟩
theorem CertN.two {S : Nat → Prop} {w : World} {l : List Rw} {k m rb : Nat} {r o : Rw} {tvr : Value} {out : Rw} {tv : Value} {wr : World} (h : CertN S w l k m rb r tvr out tv wr) (hm : m < k) (hk : k ≤ l.length) (ho : l[m]? = some o) (he : r.is = true ∧ r = o) (hn : out.is = true ∧ out ≠ r) : certM l = rw0 := by
  rw [h.c, restN_step hm hk ho, certF, if_pos he, if_pos hn]
def CertPost (S : Nat → Prop) (r : Rw) (w : World) (e : Ending) (w' : World) : Prop := ∃ tv, e = .returned (.agg (r.vals tv).toArray) ∧ RowR S w' r tv ∧ Below w.heap.size w w'

open Classical in
set_option maxRecDepth 100000 in
set_option maxHeartbeats 2000000 in
theorem certified_any (S : Nat → Prop) (a : Option Addr) (len cap : Nat) (l : List Rw) (w : World) (hrd : RdRs S w a len l) (hm1 : len ≤ cap) (hm2 : cap ≤ maxLen) (hS : ∀ b, S b → b < w.heap.size) :
    Calls Tryz.prog 82 #[.slice a len cap] w (CertPost S (certM l) w) := by
  obtain ⟨M, hM⟩ : ∃ M, M = certM l := ⟨_, rfl⟩
  rw [← hM]
  have HM := Lib.hid hM
  have HLL := Lib.hid hrd.1
  have HR := Lib.hid hrd
  have HS := Lib.hid hS
  clear hrd hM hS
  unfold maxLen at hm2
  go_enter Tryz.func82, Tryz.ntmps82
  have HI : Hid (CertO S w l 0 rw0 (.slice none 0 0) (w.alloc (.cells rowZ.toArray 118))) := Lib.hid ⟨by rw [rw0_vals]; exact Blk.new _ _ _, rowR_nil _ _ _ rfl, (Below.refl _ _).alloc (Nat.le_refl _) _, rw0_ok, rfl⟩
  go_wp2_with fail
  go_loopw [9] (fun i wr => ∃ (k : Nat) (out : Rw) (tv : Value), k ≤ len ∧ i = .int .i64 k ∧ CertO S w l k out tv wr) (fun i _ => len - (intOf i).toNat)
  case atStart => exact ⟨0, _, _, by omega, rfl, HI.out⟩
  case round =>
    obtain ⟨k, out, tv, hk, rfl, hI⟩ := hrel
    have HJ := Lib.hid hI
    clear hI
    by_cases hlt : k < len
    · obtain ⟨b, off, x, m, cp, r, rfl, -, hbw, hl, hok, -, -, g1, g2, -, -, g5, g6, g7⟩ := (HR.out.below HJ.out.bel (fun _ _ h => h)).at_ k hlt
      have HX := Lib.hid (And.intro hl (And.intro hok (And.intro g5 (And.intro g6 g7))))
      obtain ⟨xv, hxv⟩ : ∃ xv, xv = r.vals (.slice x m cp) := ⟨_, rfl⟩
      have g3 : rowOf wr ⟨b, off + k * 57, none⟩ 57 = xv := by rw [hxv]; exact g2
      have hvl := Rw.len hok (.slice x m cp)
      have hvc := RowR.cell1 (S := S) (w := wr) ⟨x, m, cp, rfl, g5, g6, g7⟩ hok
      rw [← hxv] at hvl hvc
      have HXV := Lib.hid hxv
      clear hl hok g2 g5 g6 g7 hxv
      obtain ⟨wo, rfl⟩ : ∃ wo : World, wo = wr := ⟨_, rfl⟩
      have HN : Hid (CertN S w l k 0 wo.heap.size r (.slice x m cp) out tv (wo.alloc (.cells xv.toArray 118))) := Lib.hid (by
        obtain ⟨h1, h2, h3, h4, h5⟩ := HJ.out
        obtain ⟨y1, y2, y3, y4, y5⟩ := HX.out
        refine ⟨h1.alloc _, h2.below ((Below.refl _ _).alloc (Nat.le_refl _) _), ?_, ⟨x, m, cp, rfl, y3.below ((Below.refl wo.heap.size _).alloc (Nat.le_refl _) _) (fun _ _ h => h), y4, y5⟩, h3.alloc h3.size _, h4, by rw [h5, restO_step y1]⟩
        rw [HXV.out]; exact Blk.new _ _ _)
      have hbwo : b < wo.heap.size + 1 := by omega
      go_wp2_with fail
      generalize (wo.alloc (.cells xv.toArray 118)) = w5 at HN ⊢
      clear g1 g3 hvl hvc
      go_loopw [18] (fun i wr => ∃ (j : Nat) (out : Rw) (tv : Value), j ≤ k ∧ i = .int .i64 j ∧ CertN S w l k j wo.heap.size r (.slice x m cp) out tv wr) (fun i _ => k - (intOf i).toNat)
      case atStart => exact ⟨0, _, _, by omega, rfl, HN.out⟩
      case round =>
        obtain ⟨j, out, tv, hj, rfl, hI⟩ := hrel
        have HN := Lib.hid hI
        clear hI
        by_cases hjk : j < k
        · obtain ⟨b2, off2, x2, m2, cp2, o, heq, -, hbw2, hl2, hok2, -, -, g1, g2, -, -, g5, g6, g7⟩ := (HR.out.below HN.out.bel (fun _ _ h => h)).at_ j (by omega)
          cases heq
          have HX2 := Lib.hid (And.intro hl2 (And.intro hok2 (And.intro g5 (And.intro g6 g7))))
          obtain ⟨ov, hov⟩ : ∃ ov, ov = o.vals (.slice x2 m2 cp2) := ⟨_, rfl⟩
          have g3 : rowOf wr ⟨b, off + j * 57, none⟩ 57 = ov := by rw [hov]; exact g2
          have hvl := Rw.len hok2 (.slice x2 m2 cp2)
          have hvc := RowR.cell1 (S := S) (w := wr) ⟨x2, m2, cp2, rfl, g5, g6, g7⟩ hok2
          rw [← hov] at hvl hvc
          have HOV := Lib.hid hov
          clear hl2 hok2 g2 g5 g6 g7 hov
          have HLE : Hid (k ≤ l.length) := Lib.hid (by rw [HLL.out]; omega)
          have H6 : Hid (CertN S w l k j wo.heap.size r (.slice x m cp) out tv (wr.alloc (.cells ov.toArray 118)) ∧ Blk (wr.alloc (.cells ov.toArray 118)) wr.heap.size 118 ov.toArray ∧ RowR S (wr.alloc (.cells ov.toArray 118)) o (.slice x2 m2 cp2)) := Lib.hid (by
            obtain ⟨y1, y2, y3, y4, y5⟩ := HX2.out
            have hba := (Below.refl wr.heap.size wr).alloc (Nat.le_refl _) (.cells ov.toArray 118)
            exact ⟨HN.out.below hba, Blk.new _ _ _, ⟨x2, m2, cp2, rfl, y3.below hba (fun _ _ h => h), y4, y5⟩⟩)
          have hob : wr.heap.size ≠ w.heap.size := by have := HN.out.b.lt; omega
          have hrb : Hid (wo.heap.size ≠ w.heap.size) := Lib.hid (by have := HJ.out.b.lt; omega)
          go_upto_block 4 with fail
          obtain ⟨ob, hobe⟩ : ∃ ob, ob = wr.heap.size := ⟨_, rfl⟩
          rw [← hobe] at H6 hob ⊢
          clear hobe g1 g3 hvl hvc
          generalize wr.alloc (.cells ov.toArray 118) = w6 at H6 ⊢
          have hrok := HX.out.2.1
          obtain ⟨p0, -, -, -, p1, p2, -⟩ := blk_row H6.out.1.br hrok
          have q1 := H6.out.2.1.whole (n := 57) (by rw [HOV.out]; exact Rw.len HX2.out.2.1 _)
          obtain ⟨q1, q2, -⟩ := q1
          rw [← HXV.out] at p2
          have HRO := Lib.hid hrok
          clear hrok hob
          cases his : r.is with
          | false =>
            rw [his] at p0
            have HEND := Lib.hid (H6.out.1.skip hjk HLE.out HX2.out.1 (by rw [his]; rintro ⟨h, -⟩; cases h))
            clear his
            go_wp2_with fail
            exact ⟨⟨j + 1, _, _, by omega, by go_num, HEND.out⟩, by simp [intOf]; omega⟩
          | true =>
            rw [his] at p0
            have HIS := Lib.hid his
            clear his
            have HC := Lib.hid (same_any S S r o HRO.out HX2.out.2.1 (.slice x m cp) (.slice x2 m2 cp2) w6 H6.out.1.tr H6.out.2.2)
            rw [← HXV.out, ← HOV.out] at HC
            by_cases hro : r = o
            · have HE : Hid (decide (r = o) = true) := Lib.hid (by simpa using hro)
              rw [HE.out] at HC
              have HRO2 := Lib.hid hro
              clear hro
              go_upto_block 4 with fail
              go_wp2_with fail
              refine HC.out.mono ?_
              rintro e w7 ⟨rfl, hb7⟩
              have H7 := Lib.hid (H6.out.1.below hb7)
              clear hb7
              obtain ⟨b0, -, -, -, b1, b2, -⟩ := blk_row H7.out.b H7.out.ok
              have c3 : canPut w7 ⟨w.heap.size, 0, none⟩ 57 = true := (H7.out.b.whole (Rw.len H7.out.ok tv)).2.2
              obtain ⟨-, -, -, -, p3, p4, -⟩ := blk_row H7.out.br HRO.out
              rw [← HXV.out] at p4
              have hvl : xv.length = 57 := by rw [HXV.out]; exact Rw.len HRO.out _
              have hvc : xv.all cell1 = true := by rw [HXV.out]; exact H7.out.tr.cell1 HRO.out
              cases hos : out.is with
              | false =>
                rw [hos] at b0
                have HEND := Lib.hid (H7.out.take hjk HLE.out HX2.out.1 ⟨HIS.out, HRO2.out⟩ (by rw [hos]; rintro ⟨h, -⟩; cases h) HS.out HRO.out hrb.out)
                rw [← HXV.out] at HEND
                clear hos
                go_wp2_with fail
                exact ⟨⟨j + 1, _, _, by omega, by go_num, HEND.out⟩, by simp [intOf]; omega⟩
              | true =>
                rw [hos] at b0
                have HOS := Lib.hid hos
                clear hos
                have HC2 := Lib.hid (same_any S S out r H7.out.ok HRO.out tv (.slice x m cp) w7 H7.out.t H7.out.tr)
                obtain ⟨zv, hzv⟩ : ∃ zv, zv = out.vals tv := ⟨_, rfl⟩
                rw [← HXV.out, ← hzv] at HC2
                rw [← hzv] at b2
                have HZV := Lib.hid hzv
                clear hzv
                by_cases hor : out = r
                · have HE2 : Hid (decide (out = r) = true) := Lib.hid (by simpa using hor)
                  rw [HE2.out] at HC2
                  have HOR := Lib.hid hor
                  clear hor
                  go_wp2_with fail
                  refine HC2.out.mono ?_
                  rintro e w8 ⟨rfl, hb8⟩
                  have H8 := Lib.hid (H7.out.below hb8)
                  clear hb8
                  have c3 : canPut w8 ⟨w.heap.size, 0, none⟩ 57 = true := (H8.out.b.whole (Rw.len H8.out.ok tv)).2.2
                  obtain ⟨-, -, -, -, p3, p4, -⟩ := blk_row H8.out.br HRO.out
                  rw [← HXV.out] at p4
                  have HEND := Lib.hid (H8.out.take hjk HLE.out HX2.out.1 ⟨HIS.out, HRO2.out⟩ (by rw [HOR.out]; rintro ⟨-, h⟩; exact h rfl) HS.out HRO.out hrb.out)
                  rw [← HXV.out] at HEND
                  go_wp2_with fail
                  exact ⟨⟨j + 1, _, _, by omega, by go_num, HEND.out⟩, by simp [intOf]; omega⟩
                · have HE2 : Hid (decide (out = r) = false) := Lib.hid (by simpa using hor)
                  rw [HE2.out] at HC2
                  have HOR := Lib.hid hor
                  clear hor
                  go_wp2_with fail
                  refine HC2.out.mono ?_
                  rintro e w8 ⟨rfl, hb8⟩
                  have H8 := Lib.hid (H7.out.below hb8)
                  clear hb8
                  have c3 : canPut w8 ⟨w.heap.size, 0, none⟩ 57 = true := (H8.out.b.whole (Rw.len H8.out.ok tv)).2.2
                  have HMZ : Hid (M = rw0) := Lib.hid (by rw [HM.out]; exact H8.out.two hjk HLE.out HX2.out.1 ⟨HIS.out, HRO2.out⟩ ⟨HOS.out, HOR.out⟩)
                  have HBK : Hid (Blk (putRow w8 ⟨w.heap.size, 0, none⟩ rowZ) w.heap.size 118 rowZ.toArray) := Lib.hid (H8.out.b.put_all (by rw [Rw.len H8.out.ok]; exact len_rowZ.symm))
                  have HBB := Lib.hid (Below.put H8.out.bel (p := ⟨w.heap.size, 0, none⟩) (Nat.le_refl _) rowZ)
                  go_wp2_with fail
                  try simp only [Exit.inBlock, Exit.then]
                  obtain ⟨q1, q2, -⟩ := HBK.out.whole (n := 57) len_rowZ
                  first | refine bodyPost_ret (ret_row (n := 57) rfl (by kernel_rfl) _ _ _ rfl ?_) rfl ?_ | refine bodyPost_end (ret_row (n := 57) rfl (by kernel_rfl) _ _ _ rfl ?_) rfl ?_
                  · exact q1
                  · rw [q2, HMZ.out]
                    exact ⟨.slice none 0 0, by rw [rw0_vals], rowR_nil _ _ _ rfl, HBB.out⟩
            · have HE : Hid (decide (r = o) = false) := Lib.hid (by simpa using hro)
              rw [HE.out] at HC
              have HEND := Lib.hid (H6.out.1.skip hjk HLE.out HX2.out.1 (by rintro ⟨-, h⟩; exact hro h))
              clear hro
              go_wp2_with fail
              refine HC.out.mono ?_
              rintro e w7 ⟨rfl, hb7⟩
              have HEND2 := Lib.hid (HEND.out.below hb7)
              clear hb7
              go_wp2_with fail
              exact ⟨⟨j + 1, _, _, by omega, by go_num, HEND2.out⟩, by simp [intOf]; omega⟩
        · obtain rfl : j = k := by omega
          have HEND : Hid (CertO S w l (j + 1) out tv wr) := Lib.hid ⟨HN.out.b, HN.out.t, HN.out.bel, HN.out.ok, by rw [HN.out.c, restN_end]⟩
          go_wp2_with fail
          exact ⟨⟨j + 1, _, _, by omega, by go_num, HEND.out⟩, by simp [intOf]; omega⟩
    · obtain rfl : k = len := by omega
      obtain ⟨-, -, -, -, p1, p2, -⟩ := blk_row HJ.out.b HJ.out.ok
      have c3 : canPut wr ⟨w.heap.size, 0, none⟩ 57 = true := (HJ.out.b.whole (Rw.len HJ.out.ok tv)).2.2
      obtain ⟨zv, hzv⟩ : ∃ zv, zv = out.vals tv := ⟨_, rfl⟩
      have hvl : zv.length = 57 := by rw [hzv]; exact Rw.len HJ.out.ok _
      have hvc : zv.all cell1 = true := by rw [hzv]; exact HJ.out.t.cell1 HJ.out.ok
      rw [← hzv] at p2
      have HZV := Lib.hid hzv
      have HMZ : Hid (M = out) := Lib.hid (by rw [HM.out, HJ.out.c, ← HLL.out, restO_end]; rfl)
      have HBK : Hid (Blk (putRow wr ⟨w.heap.size, 0, none⟩ zv) w.heap.size 118 zv.toArray) := Lib.hid (by rw [hzv]; exact HJ.out.b.put_all rfl)
      have HBB := Lib.hid (Below.put HJ.out.bel (p := ⟨w.heap.size, 0, none⟩) (Nat.le_refl _) zv)
      have HTT : Hid (RowR S (putRow wr ⟨w.heap.size, 0, none⟩ zv) out tv) := Lib.hid (by
        have hc := (Chg.refl (· = w.heap.size) wr).put (p := ⟨w.heap.size, 0, none⟩) (.inl rfl) zv
        exact HJ.out.t.keep hc.size (fun b hb hl => hc.block b hl (fun e => by have := HS.out b hb; omega)))
      clear hzv
      go_wp2_with fail
      try simp only [Exit.inBlock, Exit.then]
      obtain ⟨q1, q2, -⟩ := HBK.out.whole (n := 57) hvl
      first | refine bodyPost_ret (ret_row (n := 57) rfl (by kernel_rfl) _ _ _ rfl ?_) rfl ?_ | refine bodyPost_end (ret_row (n := 57) rfl (by kernel_rfl) _ _ _ rfl ?_) rfl ?_
      · exact q1
      · rw [q2, HMZ.out, HZV.out]
        rw [HZV.out] at HTT HBB
        exact ⟨tv, rfl, HTT.out, HBB.out⟩
end Go.Proofs.YtnckfjmaochnkaaGreatDoor
