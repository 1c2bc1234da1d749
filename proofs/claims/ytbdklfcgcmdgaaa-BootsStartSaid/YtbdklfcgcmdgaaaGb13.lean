/-
  tracks.certified. Where a lane lies; what was so many ticks ago. A list of rows in a block of the call's own.
-/
import Derived.Test.YtbdklfcgcmdgaaaGb09
import Derived.Test.YtbdklfcgcmdgaaaGb12
import Derived.Test.YtbdklfcgcmdgaaaGb10
import Derived.Test.YtbdklfcgcmdgaaaGb08
import Derived.Test.YtbdklfcgcmdgaaaGb11
namespace Go.Proofs.Ytbdklfcgcmdgaaa
open Go.RowKit
set_option linter.unusedVariables false
set_option linter.unusedSimpArgs false

/-- the pairs that are left: of the k-th row, from the m-th one ahead of it on -/
def restO (l : List Rw) (k : Nat) : List (Rw × Rw) := ((List.range l.length).drop k).flatMap (prsAt l)
def restN (l : List Rw) (k : Nat) (r : Rw) (m : Nat) : List (Rw × Rw) := ((l.take k).drop m).map (fun o => (r, o)) ++ restO l (k + 1)
theorem restO_step {l : List Rw} {k : Nat} {r : Rw} (hr : l[k]? = some r) : restO l k = restN l k r 0 := by
  have hk := (List.getElem?_eq_some_iff.1 hr).1
  unfold restO restN
  rw [List.drop_eq_getElem_cons (by simpa using hk), List.flatMap_cons]
  have e : l.getD k rw0 = r := by rw [List.getD_eq_getElem?_getD, hr]; rfl
  have e0 : prsAt l k = (l.take k).map (fun o => (r, o)) := by unfold prsAt; rw [e]
  rw [List.getElem_range, e0, List.drop_zero]; rfl
theorem restN_step {l : List Rw} {k m : Nat} {r o : Rw} (hm : m < k) (hk : k ≤ l.length) (ho : l[m]? = some o) : restN l k r m = (r, o) :: restN l k r (m + 1) := by
  unfold restN
  have hl : m < (l.take k).length := by rw [List.length_take]; omega
  have e : (l.take k)[m] = o := by
    rw [List.getElem_take]
    exact Option.some.inj ((List.getElem?_eq_getElem (by omega)).symm.trans ho)
  rw [List.drop_eq_getElem_cons hl, e]; rfl
theorem restN_end (l : List Rw) (k : Nat) (r : Rw) : restN l k r k = restO l (k + 1) := by
  unfold restN
  rw [List.drop_eq_nil_of_le (by rw [List.length_take]; omega)]; rfl
theorem restO_zero (l : List Rw) : restO l 0 = prs l := rfl
theorem restO_end (l : List Rw) : restO l l.length = [] := by
  unfold restO
  rw [List.drop_eq_nil_of_le (by simp)]; rfl

structure CertO (S : Nat → Prop) (w : World) (l : List Rw) (k : Nat) (out : Rw) (tv : Value) (wr : World) : Prop where
  b : Blk wr w.heap.size 54 (out.vals tv).toArray
  t : RowR S wr out tv
  bel : Below w.heap.size w wr
  ok : out.ok
  c : certM l = certF (restO l k) out
structure CertN (S : Nat → Prop) (w : World) (l : List Rw) (k m rb : Nat) (r : Rw) (tvr : Value) (out : Rw) (tv : Value) (wr : World) : Prop where
  b : Blk wr w.heap.size 54 (out.vals tv).toArray
  t : RowR S wr out tv
  br : Blk wr rb 54 (r.vals tvr).toArray
  tr : RowR S wr r tvr
  bel : Below w.heap.size w wr
  ok : out.ok
  c : certM l = certF (restN l k r m) out
theorem CertN.below {S : Nat → Prop} {w : World} {l : List Rw} {k m rb : Nat} {r : Rw} {tvr : Value} {out : Rw} {tv : Value} {wr w' : World} (h : CertN S w l k m rb r tvr out tv wr) (hb : Below wr.heap.size wr w') : CertN S w l k m rb r tvr out tv w' :=
  ⟨h.b.below hb h.b.lt, h.t.below hb, h.br.below hb h.br.lt, h.tr.below hb, h.bel.trans (hb.mono h.bel.size), h.ok, h.c⟩
theorem CertN.skip {S : Nat → Prop} {w : World} {l : List Rw} {k m rb : Nat} {r o : Rw} {tvr : Value} {out : Rw} {tv : Value} {wr : World} (h : CertN S w l k m rb r tvr out tv wr) (hm : m < k) (hk : k ≤ l.length) (ho : l[m]? = some o) (hne : ¬ (r.is = true ∧ r = o)) :
    CertN S w l k (m + 1) rb r tvr out tv wr := ⟨h.b, h.t, h.br, h.tr, h.bel, h.ok, by rw [h.c, restN_step hm hk ho, certF, if_neg hne]⟩
theorem CertN.take {S : Nat → Prop} {w : World} {l : List Rw} {k m rb : Nat} {r o : Rw} {tvr : Value} {out : Rw} {tv : Value} {wr : World} (h : CertN S w l k m rb r tvr out tv wr) (hm : m < k) (hk : k ≤ l.length) (ho : l[m]? = some o) (he : r.is = true ∧ r = o) (hn : ¬ (out.is = true ∧ out ≠ r))
    (hS : ∀ b, S b → b < w.heap.size) (hr : r.ok) (hne : rb ≠ w.heap.size) : CertN S w l k (m + 1) rb r tvr r tvr (putRow wr ⟨w.heap.size, 0, none⟩ (r.vals tvr)) := by
  have hc := (Chg.refl (· = w.heap.size) wr).put (p := ⟨w.heap.size, 0, none⟩) (.inl rfl) (r.vals tvr)
  have hbl := h.b.put_all (l := r.vals tvr) (by rw [Rw.len h.ok, Rw.len hr])
  have ht := h.tr.keep hc.size (fun b hb hl => hc.block b hl (fun e => by have := hS b hb; omega))
  exact ⟨hbl, ht, h.br.chg hc hne, ht, Below.put h.bel (p := ⟨w.heap.size, 0, none⟩) (Nat.le_refl _) _, hr, by rw [h.c, restN_step hm hk ho, certF, if_pos he, if_neg hn]⟩
theorem CertN.two {S : Nat → Prop} {w : World} {l : List Rw} {k m rb : Nat} {r o : Rw} {tvr : Value} {out : Rw} {tv : Value} {wr : World} (h : CertN S w l k m rb r tvr out tv wr) (hm : m < k) (hk : k ≤ l.length) (ho : l[m]? = some o) (he : r.is = true ∧ r = o) (hn : out.is = true ∧ out ≠ r) : certM l = rw0 := by
  rw [h.c, restN_step hm hk ho, certF, if_pos he, if_pos hn]
def CertPost (S : Nat → Prop) (r : Rw) (w : World) (e : Ending) (w' : World) : Prop := ∃ tv, e = .returned (.agg (r.vals tv).toArray) ∧ RowR S w' r tv ∧ Below w.heap.size w w'

open Classical in
set_option maxRecDepth 100000 in
set_option maxHeartbeats 2000000 in
theorem certified_any (S : Nat → Prop) (a : Option Addr) (len cap : Nat) (l : List Rw) (w : World) (hrd : RdRs S w a len l) (hm1 : len ≤ cap) (hm2 : cap ≤ maxLen) (hS : ∀ b, S b → b < w.heap.size) :
    Calls Try.prog 82 #[.slice a len cap] w (CertPost S (certM l) w) := by
  obtain ⟨M, hM⟩ : ∃ M, M = certM l := ⟨_, rfl⟩
  rw [← hM]
  have HM := Lib.hid hM
  have HLL := Lib.hid hrd.1
  have HR := Lib.hid hrd
  have HS := Lib.hid hS
  clear hrd hM hS
  unfold maxLen at hm2
  go_enter Try.func82, Try.ntmps82
  have HI : Hid (CertO S w l 0 rw0 (.slice none 0 0) (w.alloc (.cells rowZ.toArray 54))) := Lib.hid ⟨by rw [rw0_vals]; exact Blk.new _ _ _, rowR_nil _ _ _ rfl, (Below.refl _ _).alloc (Nat.le_refl _) _, rw0_ok, rfl⟩
  go_wp2_with fail
  go_loopw [9] (fun i wr => ∃ (k : Nat) (out : Rw) (tv : Value), k ≤ len ∧ i = .int .i64 k ∧ CertO S w l k out tv wr) (fun i _ => len - (intOf i).toNat)
  case atStart => exact ⟨0, _, _, by omega, rfl, HI.out⟩
  case round =>
    obtain ⟨k, out, tv, hk, rfl, hI⟩ := hrel
    have HJ := Lib.hid hI
    clear hI
    by_cases hlt : k < len
    · obtain ⟨b, off, x, m, cp, r, rfl, -, hbw, hl, hok, -, -, g1, g2, -, -, g5, g6, g7⟩ := (HR.out.below HJ.out.bel (fun _ _ h => h)).at_ k hlt
      have HX := Lib.hid (And.intro hl (And.intro hok (And.intro g5 (And.intro g6 g7))))
      obtain ⟨xv, hxv⟩ : ∃ xv, xv = r.vals (.slice x m cp) := ⟨_, rfl⟩
      have g3 : rowOf wr ⟨b, off + k * 57, none⟩ 57 = xv := by rw [hxv]; exact g2
      have hvl := Rw.len hok (.slice x m cp)
      have hvc := RowR.cell1 (S := S) (w := wr) ⟨x, m, cp, rfl, g5, g6, g7⟩ hok
      rw [← hxv] at hvl hvc
      have HXV := Lib.hid hxv
      clear hl hok g2 g5 g6 g7 hxv
      obtain ⟨wo, rfl⟩ : ∃ wo : World, wo = wr := ⟨_, rfl⟩
      have HN : Hid (CertN S w l k 0 wo.heap.size r (.slice x m cp) out tv (wo.alloc (.cells xv.toArray 54))) := Lib.hid (by
        obtain ⟨h1, h2, h3, h4, h5⟩ := HJ.out
        obtain ⟨y1, y2, y3, y4, y5⟩ := HX.out
        refine ⟨h1.alloc _, h2.below ((Below.refl _ _).alloc (Nat.le_refl _) _), ?_, ⟨x, m, cp, rfl, y3.below ((Below.refl wo.heap.size _).alloc (Nat.le_refl _) _) (fun _ _ h => h), y4, y5⟩, h3.alloc h3.size _, h4, by rw [h5, restO_step y1]⟩
        rw [HXV.out]; exact Blk.new _ _ _)
      have hbwo : b < wo.heap.size + 1 := by omega
      go_wp2_with fail
      generalize (wo.alloc (.cells xv.toArray 54)) = w5 at HN ⊢
      clear g1 g3 hvl hvc
      go_loopw [18] (fun i wr => ∃ (j : Nat) (out : Rw) (tv : Value), j ≤ k ∧ i = .int .i64 j ∧ CertN S w l k j wo.heap.size r (.slice x m cp) out tv wr) (fun i _ => k - (intOf i).toNat)
      case atStart => exact ⟨0, _, _, by omega, rfl, HN.out⟩
      case round =>
        obtain ⟨j, out, tv, hj, rfl, hI⟩ := hrel
        have HN := Lib.hid hI
        clear hI
        by_cases hjk : j < k
        · obtain ⟨b2, off2, x2, m2, cp2, o, heq, -, hbw2, hl2, hok2, -, -, g1, g2, -, -, g5, g6, g7⟩ := (HR.out.below HN.out.bel (fun _ _ h => h)).at_ j (by omega)
          cases heq
          have HX2 := Lib.hid (And.intro hl2 (And.intro hok2 (And.intro g5 (And.intro g6 g7))))
          obtain ⟨ov, hov⟩ : ∃ ov, ov = o.vals (.slice x2 m2 cp2) := ⟨_, rfl⟩
          have g3 : rowOf wr ⟨b, off + j * 57, none⟩ 57 = ov := by rw [hov]; exact g2
          have hvl := Rw.len hok2 (.slice x2 m2 cp2)
          have hvc := RowR.cell1 (S := S) (w := wr) ⟨x2, m2, cp2, rfl, g5, g6, g7⟩ hok2
          rw [← hov] at hvl hvc
          have HOV := Lib.hid hov
          clear hl2 hok2 g2 g5 g6 g7 hov
          have HLE : Hid (k ≤ l.length) := Lib.hid (by rw [HLL.out]; omega)
          have H6 : Hid (CertN S w l k j wo.heap.size r (.slice x m cp) out tv (wr.alloc (.cells ov.toArray 54)) ∧ Blk (wr.alloc (.cells ov.toArray 54)) wr.heap.size 54 ov.toArray ∧ RowR S (wr.alloc (.cells ov.toArray 54)) o (.slice x2 m2 cp2)) := Lib.hid (by
            obtain ⟨y1, y2, y3, y4, y5⟩ := HX2.out
            have hba := (Below.refl wr.heap.size wr).alloc (Nat.le_refl _) (.cells ov.toArray 54)
            exact ⟨HN.out.below hba, Blk.new _ _ _, ⟨x2, m2, cp2, rfl, y3.below hba (fun _ _ h => h), y4, y5⟩⟩)
          have hob : wr.heap.size ≠ w.heap.size := by have := HN.out.b.lt; omega
          have hrb : Hid (wo.heap.size ≠ w.heap.size) := Lib.hid (by have := HJ.out.b.lt; omega)
          go_upto_block 4 with fail
          obtain ⟨ob, hobe⟩ : ∃ ob, ob = wr.heap.size := ⟨_, rfl⟩
          rw [← hobe] at H6 hob ⊢
          clear hobe g1 g3 hvl hvc
          generalize wr.alloc (.cells ov.toArray 54) = w6 at H6 ⊢
          have hrok := HX.out.2.1
          obtain ⟨p0, -, -, -, p1, p2, -⟩ := blk_row H6.out.1.br hrok
          have q1 := H6.out.2.1.whole (n := 57) (by rw [HOV.out]; exact Rw.len HX2.out.2.1 _)
          obtain ⟨q1, q2, -⟩ := q1
          rw [← HXV.out] at p2
          have HRO := Lib.hid hrok
          clear hrok hob
          cases his : r.is with
          | false =>
            rw [his] at p0
            have HEND := Lib.hid (H6.out.1.skip hjk HLE.out HX2.out.1 (by rw [his]; rintro ⟨h, -⟩; cases h))
            clear his
            go_wp2_with fail
            exact ⟨⟨j + 1, _, _, by omega, by go_num, HEND.out⟩, by simp [intOf]; omega⟩
          | true =>
            rw [his] at p0
            have HIS := Lib.hid his
            clear his
            have HC := Lib.hid (same_any S S r o HRO.out HX2.out.2.1 (.slice x m cp) (.slice x2 m2 cp2) w6 H6.out.1.tr H6.out.2.2)
            rw [← HXV.out, ← HOV.out] at HC
            by_cases hro : r = o
            · have HE : Hid (decide (r = o) = true) := Lib.hid (by simpa using hro)
              rw [HE.out] at HC
              have HRO2 := Lib.hid hro
              clear hro
              go_upto_block 4 with fail
              go_wp2_with fail
              refine HC.out.mono ?_
              rintro e w7 ⟨rfl, hb7⟩
              have H7 := Lib.hid (H6.out.1.below hb7)
              clear hb7
              obtain ⟨b0, -, -, -, b1, b2, -⟩ := blk_row H7.out.b H7.out.ok
              have c3 : canPut w7 ⟨w.heap.size, 0, none⟩ 57 = true := (H7.out.b.whole (Rw.len H7.out.ok tv)).2.2
              obtain ⟨-, -, -, -, p3, p4, -⟩ := blk_row H7.out.br HRO.out
              rw [← HXV.out] at p4
              have hvl : xv.length = 57 := by rw [HXV.out]; exact Rw.len HRO.out _
              have hvc : xv.all cell1 = true := by rw [HXV.out]; exact H7.out.tr.cell1 HRO.out
              cases hos : out.is with
              | false =>
                rw [hos] at b0
                have HEND := Lib.hid (H7.out.take hjk HLE.out HX2.out.1 ⟨HIS.out, HRO2.out⟩ (by rw [hos]; rintro ⟨h, -⟩; cases h) HS.out HRO.out hrb.out)
                rw [← HXV.out] at HEND
                clear hos
                go_wp2_with fail
                exact ⟨⟨j + 1, _, _, by omega, by go_num, HEND.out⟩, by simp [intOf]; omega⟩
              | true =>
                rw [hos] at b0
                have HOS := Lib.hid hos
                clear hos
                have HC2 := Lib.hid (same_any S S out r H7.out.ok HRO.out tv (.slice x m cp) w7 H7.out.t H7.out.tr)
                obtain ⟨zv, hzv⟩ : ∃ zv, zv = out.vals tv := ⟨_, rfl⟩
                rw [← HXV.out, ← hzv] at HC2
                rw [← hzv] at b2
                have HZV := Lib.hid hzv
                clear hzv
                by_cases hor : out = r
                · have HE2 : Hid (decide (out = r) = true) := Lib.hid (by simpa using hor)
                  rw [HE2.out] at HC2
                  have HOR := Lib.hid hor
                  clear hor
                  go_wp2_with fail
                  refine HC2.out.mono ?_
                  rintro e w8 ⟨rfl, hb8⟩
                  have H8 := Lib.hid (H7.out.below hb8)
                  clear hb8
                  have c3 : canPut w8 ⟨w.heap.size, 0, none⟩ 57 = true := (H8.out.b.whole (Rw.len H8.out.ok tv)).2.2
                  obtain ⟨-, -, -, -, p3, p4, -⟩ := blk_row H8.out.br HRO.out
                  rw [← HXV.out] at p4
                  have HEND := Lib.hid (H8.out.take hjk HLE.out HX2.out.1 ⟨HIS.out, HRO2.out⟩ (by rw [HOR.out]; rintro ⟨-, h⟩; exact h rfl) HS.out HRO.out hrb.out)
                  rw [← HXV.out] at HEND
                  go_wp2_with fail
                  exact ⟨⟨j + 1, _, _, by omega, by go_num, HEND.out⟩, by simp [intOf]; omega⟩
                · have HE2 : Hid (decide (out = r) = false) := Lib.hid (by simpa using hor)
                  rw [HE2.out] at HC2
                  have HOR := Lib.hid hor
                  clear hor
                  go_wp2_with fail
                  refine HC2.out.mono ?_
                  rintro e w8 ⟨rfl, hb8⟩
                  have H8 := Lib.hid (H7.out.below hb8)
                  clear hb8
                  have c3 : canPut w8 ⟨w.heap.size, 0, none⟩ 57 = true := (H8.out.b.whole (Rw.len H8.out.ok tv)).2.2
                  have HMZ : Hid (M = rw0) := Lib.hid (by rw [HM.out]; exact H8.out.two hjk HLE.out HX2.out.1 ⟨HIS.out, HRO2.out⟩ ⟨HOS.out, HOR.out⟩)
                  have HBK : Hid (Blk (putRow w8 ⟨w.heap.size, 0, none⟩ rowZ) w.heap.size 54 rowZ.toArray) := Lib.hid (H8.out.b.put_all (by rw [Rw.len H8.out.ok]; exact len_rowZ.symm))
                  have HBB := Lib.hid (Below.put H8.out.bel (p := ⟨w.heap.size, 0, none⟩) (Nat.le_refl _) rowZ)
                  go_wp2_with fail
                  try simp only [Exit.inBlock, Exit.then]
                  obtain ⟨q1, q2, -⟩ := HBK.out.whole (n := 57) len_rowZ
                  first | refine bodyPost_ret (ret_row (n := 57) rfl (by kernel_rfl) _ _ _ rfl ?_) rfl ?_ | refine bodyPost_end (ret_row (n := 57) rfl (by kernel_rfl) _ _ _ rfl ?_) rfl ?_
                  · exact q1
                  · rw [q2, HMZ.out]
                    exact ⟨.slice none 0 0, by rw [rw0_vals], rowR_nil _ _ _ rfl, HBB.out⟩
            · have HE : Hid (decide (r = o) = false) := Lib.hid (by simpa using hro)
              rw [HE.out] at HC
              have HEND := Lib.hid (H6.out.1.skip hjk HLE.out HX2.out.1 (by rintro ⟨-, h⟩; exact hro h))
              clear hro
              go_wp2_with fail
              refine HC.out.mono ?_
              rintro e w7 ⟨rfl, hb7⟩
              have HEND2 := Lib.hid (HEND.out.below hb7)
              clear hb7
              go_wp2_with fail
              exact ⟨⟨j + 1, _, _, by omega, by go_num, HEND2.out⟩, by simp [intOf]; omega⟩
        · obtain rfl : j = k := by omega
          have HEND : Hid (CertO S w l (j + 1) out tv wr) := Lib.hid ⟨HN.out.b, HN.out.t, HN.out.bel, HN.out.ok, by rw [HN.out.c, restN_end]⟩
          go_wp2_with fail
          exact ⟨⟨j + 1, _, _, by omega, by go_num, HEND.out⟩, by simp [intOf]; omega⟩
    · obtain rfl : k = len := by omega
      obtain ⟨-, -, -, -, p1, p2, -⟩ := blk_row HJ.out.b HJ.out.ok
      have c3 : canPut wr ⟨w.heap.size, 0, none⟩ 57 = true := (HJ.out.b.whole (Rw.len HJ.out.ok tv)).2.2
      obtain ⟨zv, hzv⟩ : ∃ zv, zv = out.vals tv := ⟨_, rfl⟩
      have hvl : zv.length = 57 := by rw [hzv]; exact Rw.len HJ.out.ok _
      have hvc : zv.all cell1 = true := by rw [hzv]; exact HJ.out.t.cell1 HJ.out.ok
      rw [← hzv] at p2
      have HZV := Lib.hid hzv
      have HMZ : Hid (M = out) := Lib.hid (by rw [HM.out, HJ.out.c, ← HLL.out, restO_end]; rfl)
      have HBK : Hid (Blk (putRow wr ⟨w.heap.size, 0, none⟩ zv) w.heap.size 54 zv.toArray) := Lib.hid (by rw [hzv]; exact HJ.out.b.put_all rfl)
      have HBB := Lib.hid (Below.put HJ.out.bel (p := ⟨w.heap.size, 0, none⟩) (Nat.le_refl _) zv)
      have HTT : Hid (RowR S (putRow wr ⟨w.heap.size, 0, none⟩ zv) out tv) := Lib.hid (by
        have hc := (Chg.refl (· = w.heap.size) wr).put (p := ⟨w.heap.size, 0, none⟩) (.inl rfl) zv
        exact HJ.out.t.keep hc.size (fun b hb hl => hc.block b hl (fun e => by have := HS.out b hb; omega)))
      clear hzv
      go_wp2_with fail
      try simp only [Exit.inBlock, Exit.then]
      obtain ⟨q1, q2, -⟩ := HBK.out.whole (n := 57) hvl
      first | refine bodyPost_ret (ret_row (n := 57) rfl (by kernel_rfl) _ _ _ rfl ?_) rfl ?_ | refine bodyPost_end (ret_row (n := 57) rfl (by kernel_rfl) _ _ _ rfl ?_) rfl ?_
      · exact q1
      · rw [q2, HMZ.out, HZV.out]
        rw [HZV.out] at HTT HBB
        exact ⟨tv, rfl, HTT.out, HBB.out⟩
end Go.Proofs.Ytbdklfcgcmdgaaa
namespace Go.Proofs.Ytbdklfcgcmdgaaa
open Go.RowKit
set_option linter.unusedVariables false
set_option linter.unusedSimpArgs false

def momCells (n T : Nat) (G : Nat → Nat) : List Value := (List.range (4 * (n + 1))).map fun k => if k / 4 < T then .slice (some ⟨G k, 0, none⟩) n n else .slice none 0 0
theorem momCells_len (n T : Nat) (G : Nat → Nat) : (momCells n T G).length = 4 * (n + 1) := by simp [momCells]
theorem momCells_at {n T : Nat} {G : Nat → Nat} {k : Nat} (h : k < 4 * (n + 1)) : (momCells n T G)[k]? = some (if k / 4 < T then .slice (some ⟨G k, 0, none⟩) n n else .slice none 0 0) := by simp [momCells, h]
/-- is that list there? -/
def Made (n T k : Nat) : Prop := k < 4 * (n + 1) ∧ k / 4 < T
/-- where the tables may lie -/
def TabS (S : Nat → Prop) (p gp : Nat) (G : Nat → Nat) (n T : Nat) (b : Nat) : Prop := S b ∧ b ≠ p ∧ b ≠ gp ∧ ∀ k, Made n T k → b ≠ G k
def laneV (L : LaneM) (gp : Nat) : List Value := [.int .i64 L.n, .int .i64 L.me, .int .i64 L.T, .bool L.b, .slice (some ⟨gp, 0, none⟩) (L.n + 1) (L.n + 1)]
structure LaneAt (S : Nat → Prop) (w : World) (p gp : Nat) (G : Nat → Nat) (L : LaneM) : Prop where
  b : Blk w p 83 (laneV L gp).toArray
  g : Blk w gp 149 (momCells L.n L.T G).toArray
  r : ∀ k, Made L.n L.T k → RowsB (TabS S p gp G L.n L.T) w (G k) 54 (tab L.n (L.past (k / 4) (k % 4)))
  sp : S p
  sg : S gp
  sr : ∀ k, Made L.n L.T k → S (G k)
  inj : ∀ k k', Made L.n L.T k → Made L.n L.T k' → G k = G k' → k = k'
  lt : ∀ b, S b → b < w.heap.size
  bd : 4 ≤ L.n ∧ L.n ≤ 16 ∧ L.me < L.n
  ok : L.okP
  okt : L.okT
theorem LaneAt.keep {S : Nat → Prop} {w w' : World} {p gp : Nat} {G : Nat → Nat} {L : LaneM} (h : LaneAt S w p gp G L) (hs : w.heap.size ≤ w'.heap.size) (hk : ∀ b, S b → b < w.heap.size → w'.heap[b]? = w.heap[b]?) : LaneAt S w' p gp G L :=
  ⟨(hk p h.sp h.b.lt).trans h.b, (hk gp h.sg h.g.lt).trans h.g, fun k hm => (h.r k hm).keep hs fun b hb hl => hk b (by rcases hb with rfl | hb; exact h.sr k hm; exact hb.1) hl, h.sp, h.sg, h.sr, h.inj, fun b hb => Nat.lt_of_lt_of_le (h.lt b hb) hs, h.bd, h.ok, h.okt⟩
theorem LaneAt.below {S : Nat → Prop} {w w' : World} {p gp : Nat} {G : Nat → Nat} {L : LaneM} (h : LaneAt S w p gp G L) (hb : Below w.heap.size w w') : LaneAt S w' p gp G L := h.keep hb.size fun b _ hl => hb.block b hl
theorem LaneAt.cells {S : Nat → Prop} {w : World} {p gp : Nat} {G : Nat → Nat} {L : LaneM} (h : LaneAt S w p gp G L) :
    w.cell? ⟨p, 0, none⟩ = some (.int .i64 L.n) ∧ w.cell? ⟨p, 1, none⟩ = some (.int .i64 L.me) ∧ w.cell? ⟨p, 2, none⟩ = some (.int .i64 L.T) ∧ w.cell? ⟨p, 3, none⟩ = some (.bool L.b) ∧ w.cell? ⟨p, 4, none⟩ = some (.slice (some ⟨gp, 0, none⟩) (L.n + 1) (L.n + 1)) := by
  obtain ⟨q, -⟩ := h.b.rules
  exact ⟨by rw [q]; rfl, by rw [q]; rfl, by rw [q]; rfl, by rw [q]; rfl, by rw [q]; rfl⟩
def slV (g n : Nat) : Value := .slice (some ⟨g, 0, none⟩) n n
/-- a tick's four lists -/
def momV (G : Nat → Nat) (n j : Nat) : List Value := [slV (G (4 * j)) n, slV (G (4 * j + 1)) n, slV (G (4 * j + 2)) n, slV (G (4 * j + 3)) n]
theorem LaneAt.mom {S : Nat → Prop} {w : World} {p gp : Nat} {G : Nat → Nat} {L : LaneM} (h : LaneAt S w p gp G L) {j : Nat} (hj : j < L.n + 1) (hT : j < L.T) :
    hasRow w ⟨gp, j * 4, none⟩ 4 = true ∧ rowOf w ⟨gp, j * 4, none⟩ 4 = momV G L.n j := by
  obtain ⟨-, -, q3, q4, -⟩ := h.g.rules
  have hl := momCells_len L.n L.T G
  refine ⟨by rw [q3]; simp; omega, ?_⟩
  rw [q4 _ _ (by omega)]
  have e : ∀ i, i < 4 → (momCells L.n L.T G)[j * 4 + i]? = some (slV (G (4 * j + i)) L.n) := fun i hi => by
    rw [momCells_at (by omega), if_pos (by omega), show j * 4 + i = 4 * j + i from by omega]; rfl
  apply List.ext_getElem?
  intro i
  rw [List.getElem?_take, List.getElem?_drop]
  by_cases hi : i < 4
  · rw [if_pos hi, e i hi]
    have : i = 0 ∨ i = 1 ∨ i = 2 ∨ i = 3 := by omega
    rcases this with rfl | rfl | rfl | rfl <;> rfl
  · rw [if_neg hi, List.getElem?_eq_none (by simp [momV]; omega)]

def WasPost (mv : List Value) (w : World) (e : Ending) (w' : World) : Prop := e = .returned (.agg mv.toArray) ∧ Below w.heap.size w w'
set_option maxRecDepth 100000 in
set_option maxHeartbeats 1000000 in
theorem was_any (p gp cl cn n now ago j : Nat) (mv : List Value) (w : World) (hn : w.cell? ⟨p, 0, none⟩ = some (.int .i64 n)) (hpast : w.cell? ⟨p, 4, none⟩ = some (.slice (some ⟨gp, 0, none⟩) (n + 1) (n + 1)))
    (hcl : w.cell? ⟨cl, 0, none⟩ = some (.pointer (some ⟨p, 0, none⟩))) (hcn : w.cell? ⟨cn, 0, none⟩ = some (.int .i64 now)) (hm1 : hasRow w ⟨gp, j * 4, none⟩ 4 = true) (hm2 : rowOf w ⟨gp, j * 4, none⟩ 4 = mv) (hl : mv.length = 4) (hc1 : mv.all cell1 = true)
    (h4 : 4 ≤ n) (h16 : n ≤ 16) (hago : ago ≤ now) (hnow : now ≤ 1000000000) (hj : j = (now - ago) % (n + 1)) (hp : p < w.heap.size ∧ gp < w.heap.size ∧ cl < w.heap.size ∧ cn < w.heap.size) :
    Calls Try.prog 50 #[.int .i64 ago, .pointer (some ⟨cl, 0, none⟩), .pointer (some ⟨cn, 0, none⟩)] w (WasPost mv w) := by
  have F0 : Hid (∀ w' : World, Below w.heap.size w w' → w'.cell? ⟨p, 0, none⟩ = some (.int .i64 n) ∧ w'.cell? ⟨p, 4, none⟩ = some (.slice (some ⟨gp, 0, none⟩) (n + 1) (n + 1)) ∧ w'.cell? ⟨cl, 0, none⟩ = some (.pointer (some ⟨p, 0, none⟩)) ∧ w'.cell? ⟨cn, 0, none⟩ = some (.int .i64 now) ∧ hasRow w' ⟨gp, j * 4, none⟩ 4 = true ∧ rowOf w' ⟨gp, j * 4, none⟩ 4 = mv) := Lib.hid fun w' h => by
    have hr := row_below h (p := ⟨gp, j * 4, none⟩) hp.2.1 4
    exact ⟨(h.cell (p := ⟨p, 0, none⟩) hp.1).trans hn, (h.cell (p := ⟨p, 4, none⟩) hp.1).trans hpast, (h.cell (p := ⟨cl, 0, none⟩) hp.2.2.1).trans hcl, (h.cell (p := ⟨cn, 0, none⟩) hp.2.2.2).trans hcn, hr.1.trans hm1, hr.2.trans hm2⟩
  have hjn : j < n + 1 := by rw [hj]; exact Nat.mod_lt _ (by omega)
  have he : Hid (((now : Int) - ago).tmod (n + 1) = (j : Int)) := Lib.hid (by rw [hj, Int.tmod_eq_emod_of_nonneg (by omega)]; rw [show (now : Int) - ago = ((now - ago : Nat) : Int) from by omega]; norm_cast)
  have he2 : Hid (((now : Int) - ago) % (n + 1) = (j : Int)) := Lib.hid (by rw [hj]; rw [show (now : Int) - ago = ((now - ago : Nat) : Int) from by omega]; norm_cast)
  clear hn hpast hcl hcn hm1 hm2 hj
  go_enter Try.func50, Try.ntmps50
  go_upto_region 1 with fail
  have w1 : IntKind.i64.wrap ((now : Int) - ago) = (now : Int) - ago := IntWalk.i64_in _ (by omega)
  have w2 : IntKind.i64.wrap ((n : Int) + 1) = (n : Int) + 1 := IntWalk.i64_in _ (by omega)
  have e1 : ((now : Int) - ago).tmod (n + 1) = (j : Int) := he.out
  have e2 : ((now : Int) - ago) % (n + 1) = (j : Int) := he2.out
  have e3 : ¬ ((n : Int) + 1 = 0) := by omega
  have e4 : (j : Int) < n + 1 := by omega
  have e5 : (0 : Int) ≤ j := by omega
  have hsz : Hid (w.heap.size ≤ w.heap.size) := Lib.hid (Nat.le_refl _)
  have HB : Hid (Below w.heap.size w (w.alloc (.cells #[Value.slice none 0 0, Value.slice none 0 0, Value.slice none 0 0, Value.slice none 0 0] 149))) := Lib.hid ((Below.refl _ _).alloc (Nat.le_refl _) _)
  have HB2 : Hid (Below w.heap.size w (w.alloc (.cells mv.toArray 149))) := Lib.hid ((Below.refl _ _).alloc (Nat.le_refl _) _)
  go_region_held3 (fun w' => w'.cell? ⟨p, 0, none⟩ = some (.int .i64 n) ∧ w'.cell? ⟨p, 4, none⟩ = some (.slice (some ⟨gp, 0, none⟩) (n + 1) (n + 1)) ∧ w'.cell? ⟨cl, 0, none⟩ = some (.pointer (some ⟨p, 0, none⟩)) ∧ w'.cell? ⟨cn, 0, none⟩ = some (.int .i64 now) ∧ hasRow w' ⟨gp, j * 4, none⟩ 4 = true ∧ rowOf w' ⟨gp, j * 4, none⟩ 4 = mv)
    (first | exact F0.out _ HB.out.drew | exact F0.out _ HB2.out.drew | exact F0.out _ HB2.out)
    (fail)
  go_wp2_with fail
  try simp only [Exit.inBlock, Exit.then]
  obtain ⟨q1, q2, -⟩ := ((Blk.new w 149 mv.toArray).drew).whole (n := 4) hl
  first | refine bodyPost_ret (ret_row (n := 4) rfl (by kernel_rfl) _ _ _ rfl ?_) rfl ?_ | refine bodyPost_end (ret_row (n := 4) rfl (by kernel_rfl) _ _ _ rfl ?_) rfl ?_
  · exact q1
  · rw [q2]; exact ⟨rfl, HB2.out.drew⟩
end Go.Proofs.Ytbdklfcgcmdgaaa
namespace Go.Proofs.Ytbdklfcgcmdgaaa
open Go.RowKit
set_option linter.unusedVariables false
set_option linter.unusedSimpArgs false

/-! ### a list of rows in a block of the call's own -/
theorem len_flatP {ps : List (Rw × Value)} (h : ∀ p ∈ ps, p.1.ok) : (flatP ps).length = ps.length * 57 := by
  unfold flatP
  induction ps with
  | nil => rfl
  | cons x l ih => rw [List.flatMap_cons, List.length_append, Rw.len (h x (by simp)), ih (fun y hy => h y (by simp [hy])), List.length_cons, Nat.succ_mul, Nat.add_comm]
theorem flatP_set {ps : List (Rw × Value)} (h : ∀ p ∈ ps, p.1.ok) {k : Nat} (hk : k < ps.length) (x : Rw × Value) (hx : x.1.ok) : (flatP ps).take (k * 57) ++ x.1.vals x.2 ++ (flatP ps).drop (k * 57 + 57) = flatP (ps.set k x) := by
  induction ps generalizing k with
  | nil => simp at hk
  | cons y l ih =>
    have hy := Rw.len (h y (by simp)) y.2
    cases k with
    | zero =>
      simp only [Nat.zero_mul, List.set_cons_zero, flatP, List.flatMap_cons, List.take_zero, List.nil_append, Nat.zero_add]
      rw [← hy, List.drop_left]
    | succ k =>
      have := ih (fun z hz => h z (by simp [hz])) (k := k) (by simpa using hk)
      simp only [List.set_cons_succ, flatP, List.flatMap_cons] at this ⊢
      rw [← this]
      rw [show (k + 1) * 57 = (y.1.vals y.2).length + k * 57 from by omega, List.take_append, List.drop_append]
      simp [Nat.add_sub_cancel_left, List.take_of_length_le (show (y.1.vals y.2).length ≤ (y.1.vals y.2).length + k * 57 by omega), Nat.add_assoc]
/-- block g of the call's own holds rows -/
structure HB (W : World) (g : Nat) (S : Nat → Prop) (ps : List (Rw × Value)) (w : World) : Prop where
  b : ∃ rest : List Value, Blk w g 54 (flatP ps ++ rest).toArray
  ps : ∀ p ∈ ps, p.1.ok ∧ RowR S w p.1 p.2
  lt : W.heap.size ≤ g
  no : ¬ S g
  bel : Below W.heap.size W w
theorem HB.drew {W : World} {g : Nat} {S : Nat → Prop} {ps : List (Rw × Value)} {w : World} (h : HB W g S ps w) : HB W g S ps w.drew := ⟨h.b, h.ps, h.lt, h.no, h.bel.drew⟩
theorem HB.rd {W : World} {g : Nat} {S : Nat → Prop} {ps : List (Rw × Value)} {w : World} (h : HB W g S ps w) : RdRs (fun b => b = g ∨ S b) w (some ⟨g, 0, none⟩) ps.length (ps.map Prod.fst) := by
  obtain ⟨rest, hb⟩ := h.b
  refine ⟨by simp, fun r hr => ?_, fun k r hk => ?_⟩
  · obtain ⟨p, hp, rfl⟩ := List.mem_map.1 hr
    exact (h.ps p hp).1
  · rw [List.getElem?_map, Option.map_eq_some_iff] at hk
    obtain ⟨p, hk, rfl⟩ := hk
    have hkl : k < ps.length := (List.getElem?_eq_some_iff.1 hk).1
    obtain ⟨hpo, x, m, c2, hpv, h5, h6, h7⟩ := h.ps p (List.mem_of_getElem? hk)
    have hlen := Rw.len hpo p.2
    have hfl := len_flatP (fun p hp => (h.ps p hp).1)
    have hrow := row_of_cells (w := w) (p := ⟨g, 0 + k * 57, none⟩) (l := p.1.vals p.2) (fun j u hu => by
      have hj : j < 57 := by rw [← hlen]; exact (List.getElem?_eq_some_iff.1 hu).1
      have hin : k * 57 + 57 ≤ ps.length * 57 := by
        have : (k + 1) * 57 ≤ ps.length * 57 := Nat.mul_le_mul_right _ (by omega)
        omega
      rw [add_at, hb.cell, show 0 + k * 57 + j = k * 57 + j from by omega]
      have := flatP_at (fun p hp => (h.ps p hp).1) hk hj
      simp only [List.getElem?_toArray]
      rw [List.getElem?_append_left (by omega), this, hu])
    rw [hlen, hpv] at hrow
    exact ⟨g, 0, x, m, c2, rfl, .inl rfl, hb.lt, hrow.1, hrow.2, h5.mono (fun b _ h => .inr h), h6, h7⟩
theorem HB.set_ {W : World} {g : Nat} {S : Nat → Prop} {ps : List (Rw × Value)} {w : World} (h : HB W g S ps w) {i : Nat} (hi : i < ps.length) {r : Rw} {tv : Value} (hr : r.ok) (ht : RowR S w r tv) :
    canPut w ⟨g, i * 57, none⟩ 57 = true ∧ HB W g S (ps.set i (r, tv)) (putRow w ⟨g, i * 57, none⟩ (r.vals tv)) := by
  obtain ⟨rest, hb⟩ := h.b
  have hok : ∀ p ∈ ps, p.1.ok := fun p hp => (h.ps p hp).1
  have hl := len_flatP hok
  have hx1 := Rw.len hr tv
  have hin : i * 57 + 57 ≤ ps.length * 57 := by
    have : (i + 1) * 57 ≤ ps.length * 57 := Nat.mul_le_mul_right _ (by omega)
    omega
  have hk : ∀ {r' : Rw} {tv' : Value}, RowR S w r' tv' → RowR S (putRow w ⟨g, i * 57, none⟩ (r.vals tv)) r' tv' := fun {r' tv'} h' => h'.keep (by simp) (fun b hSb _ => putRow_other _ _ _ _ (by rintro rfl; exact h.no hSb))
  refine ⟨?_, ⟨⟨rest, ?_⟩, fun p hp => ?_, h.lt, h.no, Below.put h.bel (p := ⟨g, i * 57, none⟩) h.lt _⟩⟩
  · rw [hb.rules.2.2.2.2, List.length_append, hl]; simp; omega
  · have h2 := hb.put (i * 57) (r.vals tv)
    have hs := flatP_set hok hi (r, tv) hr
    rw [hx1, List.take_append_of_le_length (by omega), List.drop_append_of_le_length (by omega), ← List.append_assoc, hs] at h2
    exact h2
  · rcases List.mem_or_eq_of_mem_set hp with hp | rfl
    · exact ⟨hok p hp, hk (h.ps p hp).2⟩
    · exact ⟨hr, hk ht⟩
/-- what was made by an append onto nothing -/
theorem HB.of_own {W w : World} {g cap n : Nat} {S : Nat → Prop} {ps : List (Rw × Value)} {base : Nat} (ho : w.ownsRow base 54 57 (.slice (some ⟨g, 0, none⟩) n cap) n (flatP ps)) (hp : ∀ p ∈ ps, p.1.ok ∧ RowR S w p.1 p.2) (hg : W.heap.size ≤ g) (hS : ¬ S g) (hb : Below W.heap.size W w) : HB W g S ps w := by
  rcases ho.2 with ⟨h, -⟩ | ⟨g', cap', cur, he, h1, h2, h3, h4, h5, h6⟩
  · cases h
  · cases he
    refine ⟨⟨cur.toList.drop (n * 57), ?_⟩, hp, hg, hS, hb⟩
    have e : (flatP ps ++ cur.toList.drop (n * 57)).toArray = cur := by
      rw [← h6, List.take_append_drop]
    rw [e]
    exact h2
end Go.Proofs.Ytbdklfcgcmdgaaa
