/-
  sennitlaw18's Start.Step, walked.
-/
import Derived.Test.YtbdklfcgcmdgaaaGb52
import Derived.Test.YtbdklfcgcmdgaaaGb42
import Derived.WalkSpells
import Derived.Deep.CutBlock
import Derived.Deep.CutRange
namespace Go.Proofs.Ytbdklfcgcmdgaaa
open Go.RowKit
set_option linter.unusedVariables false
set_option linter.unusedSimpArgs false

def StepP (base N : Nat) (F : FltM) (boot : Nat → Int) (on : Nat → Nat → Bool) (cell : Nat → Nat → List Value) (t : Nat) (sg rg gl cap : Nat) (av : Value) (tag nt : Nat → Nat) (w : World) (e : Ending) (w' : World) : Prop :=
  e = .returned (.bool true) ∧ ∃ tag' P' nt' Q', RingAt tag' w' rg av (rgT N F on (ownT N F boot on cell) (t + 1)) P' ∧ StAt base N nt' w' sg rg gl cap ((t + 1 : Nat) : Int) boot (ndT N F boot on cell (t + 1)) Q' ∧
    (∀ b, nt' b ≠ 99 → tag' b = 98 ∧ base ≤ b) ∧ (∀ b, b < w.heap.size → tag' b = tag b ∧ nt' b = nt b) ∧ Chg (fun b => Rgs tag N b ∨ nt b ≠ 99) w w'
set_option maxRecDepth 100000 in
set_option maxHeartbeats 8000000 in
theorem step18_any {base N : Nat} {F : FltM} {boot : Nat → Int} {on : Nat → Nat → Bool} {X : List (List Value)} {t : Nat} {sg rg gl cap : Nat} {av : Value} {tag nt : Nat → Nat} {w : World} {P : RgP} {Q : Nat → NdP} {pb pc : Nat} {ca : Option Addr} {cl cc : Nat} {Sx : Nat → Prop}
    (h4 : 4 ≤ N) (h16 : N ≤ 16) (hF : ∀ a ∈ F.acts, a.row.ok) (hb : ∀ i, 0 ≤ boot i ∧ boot i ≤ 4096) (ht : t ≤ 10000)
    (hr : RingAt tag w rg av (rgT N F on (ownT N F boot on (cellsC X N)) t) P) (hs : StAt base N nt w sg rg gl cap t boot (ndT N F boot on (cellsC X N) t) Q) (hbase : base ≤ w.heap.size) (hnt : ∀ b, nt b ≠ 99 → tag b = 98 ∧ base ≤ b)
    (hpo : ∀ i, i < N → w.cell? ⟨pb, i, none⟩ = some (.bool (on t i))) (hpl : pb < w.heap.size) (hpt : ¬ Rgs tag N pb) (hpn : nt pb = 99)
    (hX : RdCs Sx w ca cl X) (hSx : ∀ b, Sx b → nt b = 99 ∧ ¬ Rgs tag N b) (hcl : cl ≤ 60) (hx1 : cl ≤ cc) (hx2 : cc ≤ maxLen) :
    Calls Try.prog 45 #[.pointer (some ⟨sg, 0, none⟩), .slice (some ⟨pb, 0, none⟩) N pc, .slice ca cl cc] w (StepP base N F boot on (cellsC X N) t sg rg gl cap av tag nt w) := by
  obtain ⟨cell, hcell⟩ : ∃ cell, cell = cellsC X N := ⟨_, rfl⟩
  have HCELL := Lib.hid hcell
  rw [← hcell] at hr hs ⊢
  have hcok : ∀ t i, okL cellK (cell t i) = true := by rw [hcell]; exact cellsC_ok hX.2.1 N
  clear hcell
  obtain ⟨own, hown⟩ : ∃ own, own = ownT N F boot on cell := ⟨_, rfl⟩
  have HOWN := Lib.hid hown
  rw [← hown] at hr
  clear hown
  have HNN : Hid ((rgT N F on own t).N = N) := Lib.hid (rgT_N N F on own t).1
  have HHC := Lib.hid (hear_tick N F on own (oc := pc) hr (by omega : t ≤ 100000) hpo hpl hpt)
  have c0 : w.cell? ⟨sg, 0, none⟩ = some (.pointer (some ⟨rg, 0, none⟩)) := hs.s.cell 0
  have c1 : w.cell? ⟨rg, 0, none⟩ = some (.int .i64 N) := by have := hr.cells.1; rwa [HNN.out] at this
  have HS := Lib.hid hs
  have HNT := Lib.hid hnt
  have HX := Lib.hid hX
  have HSX := Lib.hid hSx
  have HPO := Lib.hid hpo
  have HP := Lib.hid (And.intro hpt hpn)
  have HF := Lib.hid hF
  have HCK := Lib.hid hcok
  have HB := Lib.hid hb
  clear hs hnt hX hSx hpo hpt hpn hF hcok hr hb
  go_enter Try.func45, Try.ntmps45
  go_wp2_with fail
  (with_reducible refine HHC.out.mono ?_)
  rintro e W ⟨tag8, P8, hv, rfl, hr8, htg8, hheld, hc8⟩
  rw [HNN.out] at hheld hc8
  clear c0 c1 HHC
  have hsW := hc8.size
  have HR8 := Lib.hid hr8
  have HH8 := Lib.hid hheld
  have HN99 : Hid (∀ b, Rgs tag N b → nt b = 99) := Lib.hid fun b hb => Classical.byContradiction fun hn => by have := (HNT.out b hn).1; have := hb.2; omega
  have HS8 := Lib.hid (HS.out.chg hc8 HN99.out)
  have HTG8 := Lib.hid htg8
  have HC8 := Lib.hid hc8
  obtain ⟨hg, hcap, rfl, hgS, hgl, hgc1, hgc2, -⟩ := hheld
  have hgS1 := hgS.1
  clear hr8 htg8 hc8 hgS
  have hm : madeOk (.int .i64 (N : Int)) (.int .i64 (N : Int)) = true := by simp [madeOk]; omega
  go_upto_region 4 with fail
  have HI : Hid (∃ E, StI base N boot nt (W.alloc (.cells (zrep rowZ N).toArray 54)) sg rg gl cap t E W.heap.size (own t) (fun j => if j < 0 then ndT N F boot on cell (t + 1) j else ndT N F boot on cell t j) 0 (W.alloc (.cells (zrep rowZ N).toArray 54)).heap.size nt Q (W.alloc (.cells (zrep rowZ N).toArray 54))) := Lib.hid
    ⟨_, (HS8.out.below ((Below.refl _ _).alloc (Nat.le_refl _) _)).congr (fun i hi => by simp), fun b hb => rfl, Chg.refl _ _, OwnJ.start W (by omega) (own t) N, Nat.le_refl _, ⟨HS8.out.hi _ (Nat.le_refl _), by simp⟩, cutW_size (Nat.zero_le _)⟩
  have HB5 : Hid (Below W.heap.size W (W.alloc (.cells (zrep rowZ N).toArray 54))) := Lib.hid ((Below.refl _ _).alloc (Nat.le_refl _) _)
  have h5 : (W.alloc (.cells (zrep rowZ N).toArray 54)).heap.size = W.heap.size + 1 := by simp
  generalize W.alloc (.cells (zrep rowZ N).toArray 54) = w5 at HI HB5 h5 ⊢
  obtain ⟨E, hI⟩ := HI.out
  have HI0 := Lib.hid hI
  clear hI HI
  obtain ⟨og, hog⟩ : ∃ og, og = W.heap.size := ⟨_, rfl⟩
  rw [← hog] at HI0 ⊢
  have hog1 : og < w5.heap.size := by omega
  have hwog : w.heap.size ≤ og := by omega
  have hgog : hg < og := by omega
  have HOG := Lib.hid hog
  clear hog h5
  have hsz := HS8.out.len
  have hcapn := hsz.1
  go_wp2_with fail
  go_loopw [10] (fun s10 wr => ∃ (i m : Nat) (nt' : Nat → Nat) (Q' : Nat → NdP), i ≤ N ∧ s10 = .int .i64 i ∧ StI base N boot nt w5 sg rg gl cap t E og (own t) (fun j => if j < i then ndT N F boot on cell (t + 1) j else ndT N F boot on cell t j) i m nt' Q' wr) (fun i _ => N - (intOf i).toNat)
  case atStart => exact ⟨0, _, nt, Q, by omega, rfl, HI0.out⟩
  case round =>
    obtain ⟨i, m, nt', Q', hi, rfl, hI⟩ := hrel
    obtain ⟨wq, rfl⟩ : ∃ wq, wq = wr := ⟨_, rfl⟩
    by_cases hiN : i < N
    · have hiN1 : (i : Int) < N := by omega
      have hi0 : (0 : Int) ≤ i := by omega
      have hn := hI.st.nd i hiN
      rw [if_neg (Nat.lt_irrefl i)] at hn
      obtain ⟨x, hx⟩ : ∃ x, x = ndT N F boot on cell t i := ⟨_, rfl⟩
      obtain ⟨Pn, hPn⟩ : ∃ Pn, Pn = Q' i := ⟨_, rfl⟩
      rw [← hx, ← hPn] at hn
      have HN0 := Lib.hid hn.open_
      have x0 : wq.cell? ⟨Pn.g, 0, none⟩ = some (.pointer (some ⟨Pn.p, 0, none⟩)) := hn.node.cell 0
      have z3 := hn.node.frozen 3
      have c1 : wq.cell? ⟨sg, 1, none⟩ = some (.slice (some ⟨gl, 0, none⟩) N cap) := hI.st.s.cell 1
      have dg := hI.st.at_ hiN
      rw [← hPn] at dg
      obtain ⟨qo, hqo⟩ : ∃ qo, qo = on t i := ⟨_, rfl⟩
      have don : wq.cell? ⟨pb, i, none⟩ = some (.bool qo) := by
        rw [hI.c.cell (p := ⟨pb, i, none⟩) (by show pb < _; omega) (fun hh => by
          rcases hh with hh | hh
          · have := HP.out.2; have h1 : 1 ≤ nt pb := hh.1; have h2 : nt pb ≤ N := hh.2; omega
          · have : pb = og := hh
            omega)]
        rw [HB5.out.cell (p := ⟨pb, i, none⟩) (by show pb < _; omega), HC8.out.cell (p := ⟨pb, i, none⟩) hpl HP.out.1, HPO.out i hiN, hqo]
      have HI1 := Lib.hid hI
      have HXX := Lib.hid hx
      have HPN := Lib.hid hPn
      have HQO := Lib.hid hqo
      have hinv := pw_inv (N := N) (F := F) (on := on) (cell := cell) (fun i => (HB.out i).1) t i
      rw [← hx] at hinv
      have HPW : Hid (∀ w' : World, Below wq.heap.size wq w' → Calls Try.prog 71 #[.pointer (some ⟨Pn.p, 0, none⟩), .bool qo] w' fun e w'' => e = .returned (.tuple #[.int .u8 (pwM (boot i) x qo).1, .int .i64 (coldM (pwM (boot i) x qo))]) ∧ NdW base N (fun b => nt' b = i + 1) wq (boot i) Pn (ndCells x Pn) (pwM (boot i) x qo) (!x.ck.isEmpty) x.ck x.long w'' ∧ Chg (· = Pn.p) w' w'') := Lib.hid fun w' hb =>
        ndw_power (HN0.out.below hb) hinv.1 (HB.out i).1 (HB.out i).2 hinv.2.1 hinv.2.2.1 hinv.2.2.2.1 hinv.2.2.2.2.2 qo
      have HNP : Hid (Pn.g ≠ Pn.p ∧ pb ≠ Pn.p) := Lib.hid ⟨Blk.ne_ hn.node hn.pw (by decide), fun e => by have h1 := hn.ip; rw [← e, hI.lo pb (by omega), HP.out.2] at h1; omega⟩
      have F8 : Hid (∀ w', Chg (· = Pn.p) wq w' → w'.cell? ⟨Pn.g, 0, none⟩ = some (.pointer (some ⟨Pn.p, 0, none⟩)) ∧ w'.cell? ⟨pb, i, none⟩ = some (.bool qo)) := Lib.hid fun w' hc =>
        ⟨(hc.cell (p := ⟨Pn.g, 0, none⟩) hn.node.lt HNP.out.1).trans x0, (hc.cell (p := ⟨pb, i, none⟩) (by have := hI.c.size; show pb < _; omega) HNP.out.2).trans don⟩
      obtain ⟨q, hq⟩ : ∃ q, q = pwM (boot i) x qo := ⟨_, rfl⟩
      rw [← hq] at HPW
      have HQ := Lib.hid hq
      clear hn hI hx hPn hqo hq hinv
      go_upto_region 8 with fail
      go_region_held3 (fun w' => w'.cell? ⟨Pn.g, 0, none⟩ = some (.pointer (some ⟨Pn.p, 0, none⟩)) ∧ w'.cell? ⟨pb, i, none⟩ = some (.bool qo))
        (with_reducible (first | exact F8.out _ (Chg.refl _ _).drew | exact F8.out _ H1.out))
        ((first | ((with_reducible refine (HPW.out _ (Below.refl _ _).drew).mono ?_); rintro e w1 ⟨rfl, hn1, hc1⟩; have H1 := Lib.hid ((Chg.refl (· = Pn.p) wq).drew.trans hc1); have HN1 := Lib.hid hn1; clear hn1 hc1)))
      have hs1 := H1.out.size
      have z3' : w1.frozen? ⟨Pn.g, 3, none⟩ = false := HN1.out.node.frozen 3
      have y3 : w1.cell? ⟨Pn.g, 3, none⟩ = some (.int .u8 x.s) := HN1.out.node.cell 3
      have don1 : w1.cell? ⟨pb, i, none⟩ = some (.bool qo) := (F8.out w1 H1.out).2
      clear x0 z3 c1 dg don HPW
      go_upto_region 10 with fail
      have HN2 := Lib.hid (HN1.out.set 3 (.int .u8 q.1))
      have don2 : (w1.setCell ⟨Pn.g, 3, none⟩ (.int .u8 q.1)).cell? ⟨pb, i, none⟩ = some (.bool qo) := by
        rw [((Chg.refl (· = Pn.g) w1).set_at 3 (.int .u8 q.1)).cell (p := ⟨pb, i, none⟩) (by have := HI1.out.c.size; show pb < _; omega) (fun e => by
          have e' : pb = Pn.g := e
          have h1 := HN0.out.ig
          rw [← e', HI1.out.lo pb (by omega), HP.out.2] at h1; omega)]
        exact don1
      have hs2 : wq.heap.size ≤ (w1.setCell ⟨Pn.g, 3, none⟩ (.int .u8 q.1)).heap.size := by simp; omega
      generalize w1.setCell ⟨Pn.g, 3, none⟩ (.int .u8 q.1) = w2 at HN2 don2 hs2 ⊢
      clear z3' y3 don1 hs1 F8 H1 HN1
      have hif : ∀ j, j < N → j ≠ i → (fun j => if j < i + 1 then ndT N F boot on cell (t + 1) j else ndT N F boot on cell t j) j = (fun j => if j < i then ndT N F boot on cell (t + 1) j else ndT N F boot on cell t j) j := fun j _ hne => by
        by_cases hlt : j < i
        · simp only [if_pos hlt, if_pos (show j < i + 1 by omega)]
        · simp only [if_neg hlt, if_neg (show ¬ j < i + 1 by omega)]
      have HIF := Lib.hid hif
      have HII : Hid ((fun j => if j < i + 1 then ndT N F boot on cell (t + 1) j else ndT N F boot on cell t j) i = x.step N (boot i) qo (agT N F boot on cell t i)) := Lib.hid (by
        show (if i < i + 1 then ndT N F boot on cell (t + 1) i else ndT N F boot on cell t i) = _
        rw [if_pos (Nat.lt_succ_self i), ndT_succ, HXX.out, HQO.out])
      clear hif
      cases qo with
      | false =>
        have zf : ∀ k, w2.frozen? ⟨Pn.g, k, none⟩ = false := HN2.out.node.frozen
        have y1 : w2.cell? ⟨Pn.g, 1, none⟩ = some (ptrIf (!x.ck.isEmpty) Pn.c) := HN2.out.node.cell 1
        have y2 : w2.cell? ⟨Pn.g, 2, none⟩ = some (ptrIf (!x.ck.isEmpty) Pn.q) := HN2.out.node.cell 2
        have y4 : w2.cell? ⟨Pn.g, 4, none⟩ = some (.int .i64 x.shows) := HN2.out.node.cell 4
        have y5 : w2.cell? ⟨Pn.g, 5, none⟩ = some (.bool x.sure) := HN2.out.node.cell 5
        have y6 : w2.cell? ⟨Pn.g, 6, none⟩ = some Pn.a := HN2.out.node.cell 6
        have HN3 := Lib.hid ((((((HN2.out.set 1 (.pointer none)).set 2 (.pointer none)).set 4 (.int .i64 (-1))).set 5 (.bool false)).set 6 (.slice none 0 0)).agreed (.slice none 0 0))
        have HT : Hid (∃ nt'' Q'', StI base N boot nt w5 sg rg gl cap t E og (own t) (fun j => if j < i + 1 then ndT N F boot on cell (t + 1) j else ndT N F boot on cell t j) (i + 1) m nt'' Q'' (((((w2.setCell ⟨Pn.g, 1, none⟩ (.pointer none)).setCell ⟨Pn.g, 2, none⟩ (.pointer none)).setCell ⟨Pn.g, 4, none⟩ (.int .i64 (-1))).setCell ⟨Pn.g, 5, none⟩ (.bool false)).setCell ⟨Pn.g, 6, none⟩ (.slice none 0 0))) := Lib.hid (by
          obtain ⟨nt'', Q'', h1, -⟩ := HI1.out.turn hiN HN3.out (x := ⟨q.1, q.2.1, q.2.2, [], 0, false, -1⟩) (by show Pn.g = _; rw [HPN.out]) rfl rfl (fun h => absurd rfl h) (HII.out.trans (by unfold NdM.step; rw [if_neg (by simp), ← HQ.out])) HIF.out
          refine ⟨nt'', Q'', h1.skip ?_⟩
          rw [HOWN.out, ownT_eq, if_neg]
          unfold sayT
          rw [← HQO.out]; simp)
        clear hs2
        go_wp2_with fail
        obtain ⟨nt'', Q'', h1⟩ := HT.out
        exact ⟨⟨i + 1, m, nt'', Q'', by omega, by go_num, h1⟩, by simp [intOf]; omega⟩
      | true =>
        have hcks : x.ck = [] → x.long = 0 := fun h => by rw [HXX.out] at h ⊢; exact ck_nil h4 h
        have HCKS := Lib.hid hcks
        clear hcks
        obtain ⟨mk, hmk⟩ : ∃ mk, mk = !x.ck.isEmpty := ⟨_, rfl⟩
        have e0 : (ndCells x Pn).setIfInBounds 3 (.int .u8 q.1) = #[.pointer (some ⟨Pn.p, 0, none⟩), ptrIf mk Pn.c, ptrIf mk Pn.q, .int .u8 q.1, .int .i64 x.shows, .bool x.sure, Pn.a] := by rw [hmk]; rfl
        rw [e0, ← hmk] at HN2
        have HMK := Lib.hid hmk
        clear hmk e0
        have y1 : w2.cell? ⟨Pn.g, 1, none⟩ = some (ptrIf mk Pn.c) := HN2.out.node.cell 1
        have y2 : w2.cell? ⟨Pn.g, 2, none⟩ = some (ptrIf mk Pn.q) := HN2.out.node.cell 2
        have zf : ∀ k, w2.frozen? ⟨Pn.g, k, none⟩ = false := HN2.out.node.frozen
        go_upto_region 16 with fail
        obtain ⟨mn, hmn⟩ : ∃ mn, mn = !mk := ⟨_, rfl⟩
        have HMN := Lib.hid hmn
        clear hmn
        go_cut [89] from 85 to 88 (fun s89 wx => w2 = wx ∧ s89 = .bool mn)
        case first =>
          have hmn := HMN.out
          cases mk with
          | true =>
            rw [show ptrIf true Pn.c = .pointer (some ⟨Pn.c, 0, none⟩) from rfl] at y1
            clear hmn
            go_wp2_with fail
            go_meet
            exact ⟨rfl, by rw [HMN.out]; rfl⟩
          | false =>
            rw [show ptrIf false Pn.c = .pointer none from rfl] at y1
            clear hmn
            go_wp2_with fail
            go_meet
            exact ⟨rfl, by rw [HMN.out]; rfl⟩
        case rest =>
        obtain ⟨rfl, rfl⟩ := hcut
        go_upto_if 89 with fail
        go_cut [14, 15, 16, 17] from 90 to 113 (fun s14 s15 s16 s17 wx => ∃ (P3 : NdP) (w3 : World), w3 = wx ∧ P3.g = Pn.g ∧ NdW base N (fun b => nt' b = i + 1) wq (boot i) P3 #[.pointer (some ⟨P3.p, 0, none⟩), .pointer (some ⟨P3.c, 0, none⟩), .pointer (some ⟨P3.q, 0, none⟩), .int .u8 q.1, .int .i64 x.shows, .bool x.sure, Pn.a] q true x.ck x.long w3)
        case first =>
          have hmn := HMN.out
          cases mk with
          | true =>
            obtain rfl : mn = false := hmn
            rw [show ptrIf true Pn.c = .pointer (some ⟨Pn.c, 0, none⟩) from rfl] at y1
            go_wp2_with fail
            go_meet
            exact ⟨Pn, w2, rfl, rfl, HN2.out⟩
          | false =>
            obtain rfl : mn = true := hmn
            rw [show ptrIf false Pn.c = .pointer none from rfl] at y1
            rw [show ptrIf false Pn.q = .pointer none from rfl] at y2
            go_wp2_with fail
            (with_reducible refine (agnew_ok N w2 (by omega) (by omega)).mono ?_)
            rintro e w3 ⟨rfl, rfl⟩
            go_wp2_with fail
            (with_reducible refine (cqnew_ok N _ (by omega) (by omega)).mono ?_)
            rintro e w3 ⟨rfl, rfl⟩
            have HN3 := Lib.hid (HN2.out.make (by have := HI1.out.c.size; omega))
            have hwz : (w2.alloc (.cells #[.int .i64 N, .slice none 0 0] 198)).heap.size = w2.heap.size + 1 := by simp
            rw [hwz]
            generalize (w2.alloc (.cells #[.int .i64 N, .slice none 0 0] 198)).alloc (.cells (cqCells 0 (2 * N) N) 202) = w3 at HN3 ⊢
            have y1 : w3.cell? ⟨Pn.g, 1, none⟩ = some (.pointer none) := HN3.out.node.cell 1
            have y2 : w3.cell? ⟨Pn.g, 2, none⟩ = some (.pointer none) := HN3.out.node.cell 2
            have zf : ∀ k, w3.frozen? ⟨Pn.g, k, none⟩ = false := HN3.out.node.frozen
            have HN4 := Lib.hid ((HN3.out.set 1 (.pointer (some ⟨w2.heap.size, 0, none⟩))).set 2 (.pointer (some ⟨w2.heap.size + 1, 0, none⟩)))
            have hck : x.ck = [] := by have := HMK.out; cases h : x.ck with | nil => rfl | cons a l => rw [h] at this; cases this
            rw [← hck, ← HCKS.out hck] at HN4
            clear hwz hck
            go_wp2_with fail
            go_meet
            exact ⟨{ Pn with c := w2.heap.size, q := w2.heap.size + 1, v := .slice none 0 0 }, _, rfl, rfl, HN4.out⟩
        case rest =>
          obtain ⟨P3, w3, rfl, hpg, hn3⟩ := hcut
          have HN3 := Lib.hid hn3
          have HPG := Lib.hid hpg
          clear hn3 y1 y2 zf HN2 don2 hs2 HCKS HMK
          rw [← hpg]
          clear hpg
          have hwq3 := HN3.out.c.size
          have hs5 := HI1.out.c.size
          have HCW : Hid (∀ w', Chg (fun b => nt' b = i + 1) wq w' → Chg (fun b => (1 ≤ nt b ∧ nt b ≤ N) ∨ b = og) w5 w') := Lib.hid fun w' hc => HI1.out.c.trans' hc fun b hb e => .inl (by rw [← HI1.out.lo b hb, e]; omega)
          -- what is held, at any later world
          have HHW : Hid (∀ w', Chg (fun b => nt' b = i + 1) wq w' → ∃ ha hcc, w'.cell? ⟨hg, i, none⟩ = some (.slice ha N hcc) ∧ N ≤ hcc ∧ hcc ≤ maxLen ∧ RdRs (fun b => w.heap.size ≤ b ∧ b < W.heap.size) w' ha N (((rgT N F on own t).hear (on t)).held i)) := Lib.hid fun w' hc => by
            have hcw := HCW.out w' hc
            obtain ⟨g', c', he, hgS, hgl', -, -, hcell⟩ := HH8.out
            cases he
            obtain ⟨hu, hgi, ha, hnn, hcc, rfl, hrd, hmc, hcm⟩ := hcell i hiN
            have hlen := held_all N F on own t i HQO.out.symm hiN
            have hnN : hnn = N := by rw [← hrd.1]; exact (congrArg List.length hlen).trans (tab_len _ _)
            subst hnN
            have nS : ∀ b, w.heap.size ≤ b → b < W.heap.size → ¬ ((1 ≤ nt b ∧ nt b ≤ hnn) ∨ b = og) := fun b h1 h2 hh => by
              have := HS.out.hi b h1
              have := HOG.out
              omega
            have hW5 := HB5.out.size
            exact ⟨ha, hcc, (hcw.cell (p := ⟨hg, i, none⟩) (by show hg < _; omega) (nS hg hgS.1 hgl')).trans ((HB5.out.cell (p := ⟨hg, i, none⟩) hgl').trans hgi), hmc, hcm,
              ((hrd.mono (S' := fun b => w.heap.size ≤ b ∧ b < W.heap.size) fun b hl hS => ⟨hS.1, hl⟩).keep hW5 fun b _ hl => HB5.out.block b hl).chg hcw fun b _ hS => nS b hS.1 hS.2⟩
          obtain ⟨hl, hhl⟩ : ∃ hl, hl = ((rgT N F on own t).hear (on t)).held i := ⟨_, rfl⟩
          rw [← hhl] at HHW
          obtain ⟨A, hA⟩ : ∃ A, A = agreeL N hl := ⟨_, rfl⟩
          have HAL : Hid (A.length = N) := Lib.hid (by rw [hA]; exact agreeL_len N h4 h16 _)
          have HAO : Hid (∀ x ∈ A, x.ok) := Lib.hid (by rw [hA]; exact agreeL_ok)
          have hHL : hl = heldO N F on (ownT N F boot on cell) t i := by rw [hhl, HOWN.out]; rfl
          have HHL := Lib.hid hHL
          have HAE : Hid (A = agT N F boot on cell t i) := Lib.hid (by rw [hA, hHL]; rfl)
          have HAA := Lib.hid hA
          clear hhl hHL hA
          obtain ⟨ha, hcc, hgi, hmc, hcm, hrd⟩ := HHW.out w3 HN3.out.c
          have HAG := Lib.hid (agree_any _ N ha N hcc hl w3 hrd hmc hcm)
          rw [← HAA.out] at HAG
          clear hrd
          go_wp2_with fail
          (with_reducible refine HAG.out.mono ?_)
          rintro e w4 ⟨⟨v, rfl, hvv⟩, hb4⟩
          have hav : AgV18 w3.heap.size N A v w4 := by
            rcases hvv with ⟨g, h1, h2⟩ | ⟨h1, -⟩
            · rw [HAL.out] at h1; exact ⟨g, h1, h2.1, h2.2⟩
            · have := HAL.out; rw [h1] at this; simp at this; omega
          have HN4 := Lib.hid (HN3.out.below hb4)
          have HA4 := Lib.hid hav
          have y6 : w4.cell? ⟨P3.g, 6, none⟩ = some Pn.a := HN4.out.node.cell 6
          have z6 : w4.frozen? ⟨P3.g, 6, none⟩ = false := HN4.out.node.frozen 6
          have hs4 := hb4.size
          obtain ⟨gv, hgv⟩ : ∃ gv, v = .slice (some ⟨gv, 0, none⟩) N N := by obtain ⟨g, h1, -⟩ := hav; exact ⟨g, h1⟩
          subst hgv
          clear hvv hav hb4 HAG hgi HN3
          go_upto_region 24 with fail
          have HN5 := Lib.hid ((HN4.out.set 6 (.slice (some ⟨gv, 0, none⟩) N N)).agreed (.slice (some ⟨gv, 0, none⟩) N N))
          have HA5 := Lib.hid (HA4.out.set HN4.out 6 (.slice (some ⟨gv, 0, none⟩) N N))
          have hs5' : w4.heap.size ≤ (w4.setCell ⟨P3.g, 6, none⟩ (.slice (some ⟨gv, 0, none⟩) N N)).heap.size := by simp
          generalize w4.setCell ⟨P3.g, 6, none⟩ (.slice (some ⟨gv, 0, none⟩) N N) = w6 at HN5 HA5 hs5' ⊢
          clear y6 z6 HN4 HA4
          have y6 : w6.cell? ⟨P3.g, 6, none⟩ = some (.slice (some ⟨gv, 0, none⟩) N N) := HN5.out.node.cell 6
          have HCO := Lib.hid (ndw_common h4 h16 HA5.out HAO.out HAL.out)
          go_wp2_with fail
          (with_reducible refine HCO.out.mono ?_)
          rintro e w7 ⟨rfl, hb7⟩
          have HN7 := Lib.hid (HN5.out.below hb7)
          have HA7 := Lib.hid (HA5.out.below hb7)
          have hs7 := hb7.size
          have hcr := commonF_range (N : Int) A
          obtain ⟨com, hcom⟩ : ∃ com, com = commonF N A := ⟨_, rfl⟩
          rw [← hcom] at hcr ⊢
          have HCM := Lib.hid hcom
          clear hcom hb7 HN5 HA5 HCO y6
          have y1 : w7.cell? ⟨P3.g, 1, none⟩ = some (.pointer (some ⟨P3.c, 0, none⟩)) := HN7.out.node.cell 1
          have hckr : ∀ a ∈ x.ck, -1 ≤ a ∧ a ≤ 1099511627776 := by rw [HXX.out]; exact ck_range t i
          have hckl : x.ck.length ≤ 2 * N := by rw [HXX.out]; exact ck_len t i
          have HCC := Lib.hid (ndw_clock h4 h16 HN7.out HA7.out hckr hckl (by omega) com (coldM q) hcr)
          clear hckr hckl
          go_wp2_with fail
          (with_reducible refine HCC.out.mono ?_)
          rintro e w8 ⟨rfl, ⟨v', hn8⟩, ha8, hs8⟩
          have hag : ageT N F boot on cell t i = ownF N com (coldM q) := by
            rw [ageT_eq, HCM.out, HAE.out]
            unfold comT pwT
            rw [← HXX.out, ← HQO.out, ← HQ.out]
          obtain ⟨age, hage⟩ : ∃ age, age = ownF N com (coldM q) := ⟨_, rfl⟩
          rw [← hage] at hn8 hag ⊢
          have HAG := Lib.hid (And.intro hag hage)
          obtain ⟨Wn, hWn⟩ : ∃ Wn, Wn = lastN (2 * N) (x.ck ++ [age]) := ⟨_, rfl⟩
          rw [← hWn] at hn8 ⊢
          have HWN := Lib.hid hWn
          have HN8 := Lib.hid hn8
          have HA8 := Lib.hid ha8
          clear hag hage hWn hn8 ha8 HCC HN7 HA7 y1
          obtain ⟨shw, hshw⟩ : ∃ shw, shw = showF Wn := ⟨_, rfl⟩
          rw [← hshw]
          have HSH := Lib.hid hshw
          clear hshw
          have y4 : w8.cell? ⟨P3.g, 4, none⟩ = some (.int .i64 x.shows) := HN8.out.node.cell 4
          have z4 : w8.frozen? ⟨P3.g, 4, none⟩ = false := HN8.out.node.frozen 4
          go_upto_region 27 with fail
          have HN9 := Lib.hid (HN8.out.set 4 (.int .i64 shw))
          have HA9 := Lib.hid (HA8.out.set HN8.out 4 (.int .i64 shw))
          have hs9 : w8.heap.size ≤ (w8.setCell ⟨P3.g, 4, none⟩ (.int .i64 shw)).heap.size := by simp
          generalize w8.setCell ⟨P3.g, 4, none⟩ (.int .i64 shw) = w9 at HN9 HA9 hs9 ⊢
          clear y4 z4 HN8 HA8
          have y2 : w9.cell? ⟨P3.g, 2, none⟩ = some (.pointer (some ⟨P3.q, 0, none⟩)) := HN9.out.node.cell 2
          have y6 : w9.cell? ⟨P3.g, 6, none⟩ = some (.slice (some ⟨gv, 0, none⟩) N N) := HN9.out.node.cell 6
          have hlo0 : 0 ≤ x.long := by rw [HXX.out]; exact long_ge0 t i
          have hlo1 : x.long ≤ 2 * N := by rw [HXX.out]; exact long_le t i
          obtain ⟨lg, hlg⟩ : ∃ lg, lg = cqOn x.long (2 * N) (evenF N A com) := ⟨_, rfl⟩
          obtain ⟨su, hsu⟩ : ∃ su, su = (lg == 2 * (N : Int)) := ⟨_, rfl⟩
          have HCQ : Hid (∀ w' : World, Below w9.heap.size w9 w' → Calls Try.prog 76 #[.pointer (some ⟨P3.q, 0, none⟩), .slice (some ⟨gv, 0, none⟩) N N, .int .i64 com] w' fun e w'' => e = .returned (.bool su) ∧ NdW base N (fun b => nt' b = i + 1) wq (boot i) { { P3 with a := .slice (some ⟨gv, 0, none⟩) N N } with v := v' } (#[.pointer (some ⟨P3.p, 0, none⟩), .pointer (some ⟨P3.c, 0, none⟩), .pointer (some ⟨P3.q, 0, none⟩), .int .u8 q.1, .int .i64 shw, .bool x.sure, .slice (some ⟨gv, 0, none⟩) N N]) q true Wn lg w'' ∧ w'.heap.size ≤ w''.heap.size) := Lib.hid fun w' hb => by
            rw [hsu, hlg]
            refine (ndw_clique h4 h16 (HN9.out.below hb) (HA9.out.below hb) HAO.out HAL.out com hlo0 hlo1).mono ?_
            rintro e w'' ⟨rfl, h1, h2⟩
            exact ⟨rfl, h1, h2.size⟩
          have HLG := Lib.hid (And.intro hlg hsu)
          clear hlo0 hlo1 hlg hsu
          go_cut [] from 143 to 155 (fun wx => ∃ w11 : World, w11 = wx ∧ w9.heap.size ≤ w11.heap.size ∧ NdW base N (fun b => nt' b = i + 1) wq (boot i) { { P3 with a := .slice (some ⟨gv, 0, none⟩) N N } with v := v' } (#[.pointer (some ⟨P3.p, 0, none⟩), .pointer (some ⟨P3.c, 0, none⟩), .pointer (some ⟨P3.q, 0, none⟩), .int .u8 q.1, .int .i64 shw, .bool su, .slice (some ⟨gv, 0, none⟩) N N]) q true Wn lg w11)
          case first =>
            go_region_with (first | (go_at_call 76; refine (HCQ.out _ (by first | exact (Below.refl _ _).drew | exact Below.drewN_ (Below.refl _ _) _ | exact Below.refl _ _)).mono ?_; rintro e w10 ⟨rfl, hn10, hs10⟩; have hs10 : w9.heap.size ≤ w10.heap.size := hs10; have HN10 := Lib.hid hn10; have y5 : w10.cell? ⟨P3.g, 5, none⟩ = some (.bool x.sure) := hn10.node.cell 5; have z5 : w10.frozen? ⟨P3.g, 5, none⟩ = false := hn10.node.frozen 5; clear hn10))
            all_goals go_wp2_with fail
            all_goals go_meet
            all_goals exact ⟨_, rfl, by simp; omega, HN10.out.set 5 (.bool su)⟩
          case rest =>
          obtain ⟨w11, rfl, hs11, hn11⟩ := hcut
          have HN11 := Lib.hid hn11
          clear hn11 y2 y6 HCQ HN9 HA9
          have hst : x.step N (boot i) true (agT N F boot on cell t i) = ⟨q.1, q.2.1, q.2.2, Wn, lg, su, shw⟩ := by
            unfold NdM.step
            rw [if_pos rfl]
            unfold ckN longN ageM
            rw [← HAE.out, ← HCM.out, ← HQ.out, ← HAG.out.2, ← HWN.out, ← HLG.out.1, ← HLG.out.2, ← HSH.out]
          have hwne : Wn.isEmpty = false := by
            have hl1 : Wn.length = (lastN (2 * N) (x.ck ++ [age])).length := by rw [HWN.out]
            cases hW : Wn with
            | nil => rw [hW] at hl1; unfold lastN at hl1; simp at hl1; omega
            | cons a l => rfl
          have HTT : Hid (∃ nt'' Q'', StI base N boot nt w5 sg rg gl cap t E og (own t) (fun j => if j < i + 1 then ndT N F boot on cell (t + 1) j else ndT N F boot on cell t j) i m nt'' Q'' w11 ∧ ∀ b, w11.heap.size ≤ b → nt'' b = 99) := Lib.hid
            (HI1.out.turn hiN HN11.out (x := ⟨q.1, q.2.1, q.2.2, Wn, lg, su, shw⟩) (by show P3.g = _; rw [HPG.out, HPN.out]) (by
              show _ = ndCells ⟨q.1, q.2.1, q.2.2, Wn, lg, su, shw⟩ _
              unfold ndCells
              simp only [hwne, Bool.not_false]
              rfl) rfl (fun _ => ⟨rfl, rfl, rfl⟩) (HII.out.trans hst) HIF.out)
          have hsay : sayT N F boot on cell t i = decide (q.1 = 2) := by
            unfold sayT pwT
            rw [← HQO.out, ← HXX.out, ← HQ.out]
            simp
          have HSAY := Lib.hid hsay
          have HCW11 := Lib.hid (HHW.out w11 HN11.out.c)
          clear hst hwne hsay HN11
          by_cases h2 : q.1 = 2
          · have h2' : (q.1 == 2) = true := by simpa using h2
            obtain ⟨nt'', Q'', hI2, hhi2⟩ := HTT.out
            have HI2 := Lib.hid hI2
            have hown : own t i = ⟨true, setAge age (cell t i), tabL hl⟩ := by
              rw [HOWN.out, ownT_eq, if_pos (by rw [HSAY.out]; simpa using h2), ← HHL.out]
              unfold cT
              rw [HAG.out.1]
            have HOW2 := Lib.hid hown
            have HH2 := Lib.hid h2
            clear hI2 hown h2
            go_upto_region 30 with fail
            clear h2'
            have HI3 := Lib.hid (HI2.out.below ((Below.refl _ _).alloc (Nat.le_refl _) (.cells cellZ.toArray 51)))
            have HKC : Hid (Blk (w11.alloc (.cells cellZ.toArray 51)) w11.heap.size 51 cellZ.toArray) := Lib.hid (Blk.new _ _ _)
            have HB12 : Hid (Below w11.heap.size w11 (w11.alloc (.cells cellZ.toArray 51))) := Lib.hid ((Below.refl _ _).alloc (Nat.le_refl _) _)
            have hm11 := HI2.out.le
            have h511 := HI2.out.c.size
            have hncb := hhi2 w11.heap.size (Nat.le_refl _)
            generalize w11.alloc (.cells cellZ.toArray 51) = w12 at HI3 HKC HB12 ⊢
            obtain ⟨ha2, hcc2, hgi2, hmc2, hcm2, hrd2⟩ := HCW11.out
            have hgl11 : hg < w11.heap.size := by omega
            have HG12 : Hid (w12.cell? ⟨hg, i, none⟩ = some (.slice ha2 N hcc2) ∧ RdRs (fun b => w.heap.size ≤ b ∧ b < W.heap.size) w12 ha2 N hl) := Lib.hid ⟨(HB12.out.cell (p := ⟨hg, i, none⟩) hgl11).trans hgi2, hrd2.keep HB12.out.size fun b _ hl => HB12.out.block b hl⟩
            obtain ⟨cb, hcb⟩ : ∃ cb, cb = w11.heap.size := ⟨_, rfl⟩
            rw [← hcb] at HKC hm11 h511 hncb hgl11 ⊢
            clear hgi2 hrd2 HB12 HI2 hhi2 hcb HTT HCW11
            have hcb12 : cb < w12.heap.size := HKC.out.lt
            have HTI := Lib.hid (HI3.out.st.s.cell 2)
            obtain ⟨qc, hqc⟩ : ∃ qc, qc = decide ((0 : Int) < cl) := ⟨_, rfl⟩
            go_cut [161] from 159 to 160 (fun s161 wx => w12 = wx ∧ s161 = .bool qc)
            case first =>
              have HQC := Lib.hid hqc
              clear hqc
              go_wp2_with fail
              go_meet
              exact ⟨rfl, by rw [HQC.out]; simp⟩
            case rest =>
            obtain ⟨rfl, rfl⟩ := hcut
            go_upto_if 161 with fail
            go_cut [] from 162 to 175 (fun wx => ∃ w13 : World, w13 = wx ∧ Blk w13 cb 51 (cell t i).toArray ∧ Chg (· = cb) w12 w13)
            case first =>
              by_cases hcl0 : cl = 0
              · obtain rfl : qc = false := by rw [hqc]; simp; omega
                have hcz : cell t i = cellZ := by rw [HCELL.out]; exact cellsC_nil (by rw [HX.out.1]; exact hcl0) N t i
                have HCZ := Lib.hid hcz
                clear hcl0 hcz hqc
                go_wp2_with fail
                go_meet
                exact ⟨w12, rfl, by rw [HCZ.out]; exact HKC.out, Chg.refl _ _⟩
              · obtain rfl : qc = true := by rw [hqc]; simp; omega
                have hcl1 : (0 : Int) < cl := by omega
                obtain ⟨tn, htn⟩ : ∃ tn, tn = t * N := ⟨_, rfl⟩
                have e1 : (t : Int) * (N : Int) = (tn : Int) := by rw [htn]; push_cast; rfl
                have htnl : tn ≤ 160000 := by rw [htn]; exact Nat.le_trans (Nat.mul_le_mul ht h16) (by omega)
                have wr1 : IntKind.i64.wrap (tn : Int) = tn := IntWalk.i64_in _ (by omega)
                have y2 : w12.cell? ⟨sg, 2, none⟩ = some (.int .i64 t) := HTI.out
                obtain ⟨j, hj⟩ : ∃ j, (tn + i) % cl = j := ⟨_, rfl⟩
                have hjl : j < cl := by rw [← hj]; exact Nat.mod_lt _ (by omega)
                obtain ⟨cbk, coff, c, rfl, hcS, hcw, hcv0, hcok, hcl5, hcall0, hr1, hr2⟩ := HX.out.at_ j hjl
                have hsx := HSX.out cbk hcS
                have r1 := row_chg HC8.out (p := ⟨cbk, coff + j * 55, none⟩) hcw hsx.2 55
                have r2 := row_below HB5.out (p := ⟨cbk, coff + j * 55, none⟩) (by show cbk < _; omega) 55
                have r3 := row_chg HI3.out.c (p := ⟨cbk, coff + j * 55, none⟩) (by show cbk < _; omega) (fun hh => by
                  rcases hh with hh | hh
                  · have h1 : 1 ≤ nt cbk := hh.1
                    have h2 : nt cbk ≤ N := hh.2
                    omega
                  · have : cbk = og := hh
                    omega) 55
                have d1 := r3.1.trans (r2.1.trans (r1.1.trans hr1))
                have d2 := r3.2.trans (r2.2.trans (r1.2.trans hr2))
                have hce : cell t i = c := by rw [HCELL.out]; exact cellsC_at (j := j) (by rw [← htn, HX.out.1]; exact hj) hcv0
                have wr2 : IntKind.i64.wrap ((tn : Int) + i) = (tn : Int) + i := IntWalk.i64_in _ (by omega)
                have f1 : ((tn : Int) + i).tmod cl = (j : Int) := by rw [← hj, Int.tmod_eq_emod_of_nonneg (by omega)]; norm_cast
                have f2 : ((tn : Int) + i) % cl = (j : Int) := by rw [← hj]; norm_cast
                have f3 : ¬ (cl : Int) = 0 := by omega
                have f5 : (j : Int) < cl := by omega
                have f6 : (0 : Int) ≤ j := by omega
                have cp : canPut w12 ⟨cb, 0, none⟩ 55 = true := (HKC.out.whole len_cellZ).2.2
                have HEN : Hid (Blk (putRow w12 ⟨cb, 0, none⟩ c) cb 51 (cell t i).toArray ∧ Chg (· = cb) w12 (putRow w12 ⟨cb, 0, none⟩ c)) := Lib.hid ⟨by rw [hce]; exact HKC.out.put_all (by rw [len_cellZ, hcl5]), (Chg.refl (· = cb) w12).put (p := ⟨cb, 0, none⟩) (.inl rfl) c⟩
                clear r1 r2 r3 hr1 hr2 hcv0 hce hj hcS hsx htn hcl0 hcok hqc
                go_wp2_with fail
                go_meet
                exact ⟨_, rfl, HEN.out.1, HEN.out.2⟩
            case rest =>
            obtain ⟨w13, rfl, hk13, hc13⟩ := hcut
            clear hqc
            have hck := HCK.out t i
            obtain ⟨c0, crest, hcc0⟩ : ∃ c0 crest, cell t i = c0 :: crest := by
              have := (okL_len hck).trans len_cellK
              cases h : cell t i with
              | nil => rw [h] at this; simp at this
              | cons a l => exact ⟨a, l, rfl⟩
            have hsok := setAge_ok hck (ageT_range N F boot on cell t i).1 (ageT_range N F boot on cell t i).2
            rw [HAG.out.1] at hsok
            obtain ⟨cv, hcv⟩ : ∃ cv, cv = setAge age (cell t i) := ⟨_, rfl⟩
            rw [← hcv] at hsok
            have hcl55 : cv.length = 55 := (okL_len hsok).trans len_cellK
            have hcall := okL_cell1 hsok
            have y0 : w13.cell? ⟨cb, 0, none⟩ = some c0 := by rw [hk13.cell, hcc0]; rfl
            have z0 := hk13.frozen 0
            have HI4 := Lib.hid (HI3.out.put_ hc13 h511 hncb hm11)
            have nog : og ≠ cb := by omega
            have ng : ∀ b, b < W.heap.size → b ≠ cb := fun b hb => by have := HOG.out; omega
            have HG13 : Hid (w13.cell? ⟨hg, i, none⟩ = some (.slice ha2 N hcc2) ∧ RdRs (fun b => w.heap.size ≤ b ∧ b < W.heap.size) w13 ha2 N hl) := Lib.hid ⟨(hc13.cell (p := ⟨hg, i, none⟩) (by show hg < _; omega) (ng hg hgl)).trans HG12.out.1, HG12.out.2.chg hc13 fun b _ hS => ng b hS.2⟩
            have HK13 := Lib.hid hk13
            have HCV := Lib.hid (And.intro hcv hcc0)
            have HSOK := Lib.hid hsok
            have hs13 := hc13.size
            clear hk13 hc13 hck hsok hcv hcc0 HI3 HKC HG12 HTI
            go_upto_region 33 with fail
            have HI5 := Lib.hid (HI4.out.put_ ((Chg.refl (· = cb) w13).set_at 0 (.int .i64 age)) h511 hncb hm11)
            have HK14 : Hid (Blk (w13.setCell ⟨cb, 0, none⟩ (.int .i64 age)) cb 51 cv.toArray) := Lib.hid (by
              have := HK13.out.set_ 0 (.int .i64 age)
              rw [HCV.out.2] at this
              rw [HCV.out.1, HCV.out.2]
              exact this)
            have HG14 : Hid ((w13.setCell ⟨cb, 0, none⟩ (.int .i64 age)).cell? ⟨hg, i, none⟩ = some (.slice ha2 N hcc2) ∧ RdRs (fun b => w.heap.size ≤ b ∧ b < W.heap.size) (w13.setCell ⟨cb, 0, none⟩ (.int .i64 age)) ha2 N hl) := Lib.hid ⟨(((Chg.refl (· = cb) w13).set_at 0 (.int .i64 age)).cell (p := ⟨hg, i, none⟩) (by show hg < _; omega) (ng hg hgl)).trans HG13.out.1, HG13.out.2.chg ((Chg.refl (· = cb) w13).set_at 0 (.int .i64 age)) fun b _ hS => ng b hS.2⟩
            have hs14 : w13.heap.size ≤ (w13.setCell ⟨cb, 0, none⟩ (.int .i64 age)).heap.size := by simp
            generalize w13.setCell ⟨cb, 0, none⟩ (.int .i64 age) = w14 at HI5 HK14 HG14 hs14 ⊢
            clear HI4 HK13 HG13 y0 z0
            have hlo : ∀ r ∈ hl, r.ok := HG14.out.2.2.1
            have hll : (tabL hl).length = N := by unfold tabL; rw [List.length_map]; exact HG14.out.2.1
            have HLL := Lib.hid hll
            have HTL := Lib.hid (tabL_ok hlo)
            clear hlo hll
            have FF : Hid (∀ w' : World, Chg (· = og) w14 w' → canPut w' ⟨og, i * 57, none⟩ 57 = true → (hasRow w' ⟨cb, 0, none⟩ 55 = true ∧ rowOf w' ⟨cb, 0, none⟩ 55 = cv ∧ w'.cell? ⟨hg, i, none⟩ = some (.slice ha2 N hcc2) ∧ canPut w' ⟨og, i * 57, none⟩ 57 = true ∧ Chg (· = og) w14 w')) := Lib.hid fun w' hc hp => by
              obtain ⟨r1, r2, -⟩ := (HK14.out.chg hc (fun e => nog e.symm)).whole hcl55
              exact ⟨r1, r2, (hc.cell (p := ⟨hg, i, none⟩) (by show hg < _; omega) (by show ¬ hg = _; omega)).trans HG14.out.1, hp, hc⟩
            have F0 : Hid (∀ w' : World, Below w14.heap.size w14 w' → (hasRow w' ⟨cb, 0, none⟩ 55 = true ∧ rowOf w' ⟨cb, 0, none⟩ 55 = cv ∧ w'.cell? ⟨hg, i, none⟩ = some (.slice ha2 N hcc2) ∧ canPut w' ⟨og, i * 57, none⟩ 57 = true ∧ Chg (· = og) w14 w')) := Lib.hid fun w' hb =>
              FF.out w' (Chg.of_below hb _) ((HI5.out.o.below HI5.out.e hb).canPut_ hiN)
            have F1 : Hid (∀ w' w'' : World, Below w'.heap.size w' w'' → (hasRow w' ⟨cb, 0, none⟩ 55 = true ∧ rowOf w' ⟨cb, 0, none⟩ 55 = cv ∧ w'.cell? ⟨hg, i, none⟩ = some (.slice ha2 N hcc2) ∧ canPut w' ⟨og, i * 57, none⟩ 57 = true ∧ Chg (· = og) w14 w') → (hasRow w'' ⟨cb, 0, none⟩ 55 = true ∧ rowOf w'' ⟨cb, 0, none⟩ 55 = cv ∧ w''.cell? ⟨hg, i, none⟩ = some (.slice ha2 N hcc2) ∧ canPut w'' ⟨og, i * 57, none⟩ 57 = true ∧ Chg (· = og) w14 w'')) := Lib.hid fun w' w'' hb h => by
              obtain ⟨-, -, -, s9, hc⟩ := h
              refine FF.out w'' (hc.trans (Chg.of_below hb _)) ?_
              rw [canPut_block (w := w') (hb.block og (by have := hc.size; have := HI5.out.o.lt; omega))]
              exact s9
            have F2 : Hid (∀ (w' : World) (l : List Value), l.length = 57 → (hasRow w' ⟨cb, 0, none⟩ 55 = true ∧ rowOf w' ⟨cb, 0, none⟩ 55 = cv ∧ w'.cell? ⟨hg, i, none⟩ = some (.slice ha2 N hcc2) ∧ canPut w' ⟨og, i * 57, none⟩ 57 = true ∧ Chg (· = og) w14 w') → (hasRow (putRow w' ⟨og, i * 57, none⟩ l) ⟨cb, 0, none⟩ 55 = true ∧ rowOf (putRow w' ⟨og, i * 57, none⟩ l) ⟨cb, 0, none⟩ 55 = cv ∧ (putRow w' ⟨og, i * 57, none⟩ l).cell? ⟨hg, i, none⟩ = some (.slice ha2 N hcc2) ∧ canPut (putRow w' ⟨og, i * 57, none⟩ l) ⟨og, i * 57, none⟩ 57 = true ∧ Chg (· = og) w14 (putRow w' ⟨og, i * 57, none⟩ l))) := Lib.hid fun w' l hl h => by
              obtain ⟨-, -, -, s9, hc⟩ := h
              refine FF.out _ (hc.put (p := ⟨og, i * 57, none⟩) (.inl rfl) l) ?_
              rw [canPut_put _ _ _ _ _ (by rw [hl]; exact s9)]
              exact s9
            have FT : Hid (∀ w' : World, (hasRow w' ⟨cb, 0, none⟩ 55 = true ∧ rowOf w' ⟨cb, 0, none⟩ 55 = cv ∧ w'.cell? ⟨hg, i, none⟩ = some (.slice ha2 N hcc2) ∧ canPut w' ⟨og, i * 57, none⟩ 57 = true ∧ Chg (· = og) w14 w') → Calls Try.prog 39 #[.slice ha2 N hcc2] w' (VecPost (tabL hl) w')) := Lib.hid fun w' h => by
              obtain ⟨-, -, -, -, hc⟩ := h
              exact table_any _ ha2 N hcc2 hl w' (HG14.out.2.chg hc fun b _ hS => by have h1 := hS.2; have h2 := HOG.out; show ¬ b = og; omega) hmc2 hcm2 (by omega)
            clear HHW HCW
            go_region_held3 (fun w' => (hasRow w' ⟨cb, 0, none⟩ 55 = true ∧ rowOf w' ⟨cb, 0, none⟩ 55 = cv ∧ w'.cell? ⟨hg, i, none⟩ = some (.slice ha2 N hcc2) ∧ canPut w' ⟨og, i * 57, none⟩ 57 = true ∧ Chg (· = og) w14 w'))
              (with_reducible (first | assumption | exact F0.out _ (Below.refl _ _).drew | exact F1.out _ _ (by assumption) (by assumption) | exact F2.out _ _ hyl (by assumption)))
              ((first
                | ((with_reducible refine (FT.out _ (by assumption)).mono ?_); rintro e w15 ⟨⟨v, rfl, hvv⟩, hb15⟩; obtain ⟨ta, rfl, hta⟩ := hvv.rd HTL.out; rw [HLL.out] at hta ⊢; have hyl : (Value.bool true :: (cv ++ [Value.slice ta N N])).length = 57 := (by simp [hcl55]); have HTA := Lib.hid hta; clear hvv hta)))
            have hb15' : Below w14.heap.size w14 w15 := (Below.refl _ _).drew.trans hb15
            have HI6 := Lib.hid (HI5.out.below hb15')
            have hs15 := hb15'.size
            have h514 := HI5.out.c.size
            have HE : Hid (StI base N boot nt w5 sg rg gl cap t E og (own t) (fun j => if j < i + 1 then ndT N F boot on cell (t + 1) j else ndT N F boot on cell t j) (i + 1) w15.heap.size nt'' Q'' (putRow w15 ⟨og, i * 57, none⟩ (.bool true :: (cv ++ [.slice ta N N])))) := Lib.hid (by
              have hok : (own t i).ok := by rw [HOWN.out]; exact (bt_ok (boot := boot) (on := on) HF.out HCK.out t).2 i
              have hrow : RowR (fun b => og < b ∧ b < w15.heap.size ∧ nt'' b = 99) w15 (own t i) (.slice ta N N) := by
                refine ⟨ta, N, N, rfl, ?_, Nat.le_refl _, by simp only [maxLen]; omega⟩
                rw [HOW2.out]
                refine HTA.out.mono fun b hb hS => ?_
                have hS' : w14.heap.size ≤ b := hS
                exact ⟨by omega, hb, HI5.out.st.hi b hS'⟩
              have h2 := (HI6.out.row hiN hok (.inr trivial) (m' := w15.heap.size) (by omega) (Nat.le_refl _) hrow).2
              have e : (own t i).vals (.slice ta N N) = .bool true :: (cv ++ [.slice ta N N]) := by rw [HOW2.out, HCV.out.1]; rfl
              rw [e] at h2
              exact h2)
            go_wp2_with fail
            exact ⟨⟨i + 1, _, nt'', Q'', by omega, by go_num, HE.out⟩, by simp [intOf]; omega⟩
          · have h2' : (q.1 == 2) = false := by simpa using h2
            have HT : Hid (∃ nt'' Q'', StI base N boot nt w5 sg rg gl cap t E og (own t) (fun j => if j < i + 1 then ndT N F boot on cell (t + 1) j else ndT N F boot on cell t j) (i + 1) m nt'' Q'' w11) := Lib.hid (by
              obtain ⟨nt'', Q'', h1, -⟩ := HTT.out
              refine ⟨nt'', Q'', h1.skip ?_⟩
              rw [HOWN.out, ownT_eq, if_neg (by rw [HSAY.out]; simpa using h2)])
            go_wp2_with fail
            obtain ⟨nt'', Q'', h1⟩ := HT.out
            exact ⟨⟨i + 1, m, nt'', Q'', by omega, by go_num, h1⟩, by simp [intOf]; omega⟩
    · have hiN1 : ¬ (i : Int) < N := by omega
      obtain rfl : N = i := by omega
      obtain ⟨wx, rfl⟩ : ∃ wx, wx = wq := ⟨_, rfl⟩
      have hNw : ∀ b, nt b ≠ 99 → b < w.heap.size := fun b hb => by
        rcases Nat.lt_or_ge b w.heap.size with h1 | h1
        · exact h1
        · exact absurd (HS.out.hi b h1) hb
      have ht8 : ∀ b, nt b ≠ 99 → tag8 b = 98 := fun b hb => by rw [HTG8.out b (hNw b hb)]; exact (HNT.out b hb).1
      have htW : ∀ b, og ≤ b → tag8 b = 98 := fun b hb => HR8.out.tg b (by have := HOG.out; omega)
      have hRN : ((rgT N F on own t).hear (on t)).N = N := HNN.out
      have HRX := Lib.hid ((HR8.out.below HB5.out).chg hI.c (fun b hb => by
        rw [hRN]
        rcases hb with hb | hb
        · rw [ht8 b (by omega)]; omega
        · rw [htW b (by omega)]; omega))
      have HSC := Lib.hid (say_tick N F on own (oc := N) HRX.out (by omega : t ≤ 100000) hI.o.rd (fun b _ hb hr => by
        have h2 := hr.2
        have : tag8 b = 98 := by
          rcases hb with hb | hb
          · exact htW b (by omega)
          · exact htW b (by have := hb.1; omega)
        omega) (Nat.le_refl _))
      have hn8 : ∀ b, nt' b ≠ 99 → tag8 b = 98 ∧ base ≤ b := fun b hb => by
        rcases Nat.lt_or_ge b w5.heap.size with h1 | h1
        · rw [hI.lo b h1] at hb
          exact ⟨ht8 b hb, (HNT.out b hb).2⟩
        · exact ⟨htW b (by omega), by omega⟩
      have c0 : wx.cell? ⟨sg, 0, none⟩ = some (.pointer (some ⟨rg, 0, none⟩)) := hI.st.s.cell 0
      have HI1 := Lib.hid hI
      have HN8 := Lib.hid hn8
      have HSG := Lib.hid (And.intro (show nt sg ≠ 99 by rw [HS.out.os]; omega) (And.intro (hNw sg (by rw [HS.out.os]; omega)) hRN))
      clear hI hn8 ht8 htW hNw hRN
      go_wp2_with fail
      (with_reducible refine HSC.out.mono ?_)
      rintro e w9 ⟨rfl, tag9, P9, hr9, htg9, hc9⟩
      rw [HSG.out.2.2] at hc9
      have hst9 := HI1.out.st.chg hc9 (fun b hb => Classical.byContradiction fun hn => by have := (HN8.out b hn).1; have := hb.2; omega)
      have y2 : w9.cell? ⟨sg, 2, none⟩ = some (.int .i64 t) := hst9.s.cell 2
      have z2 := hst9.s.frozen 2
      have wt : IntKind.i64.wrap ((t : Int) + 1) = (t : Int) + 1 := IntWalk.i64_in _ (by omega)
      have hsx := HI1.out.c.size
      have hs9 := hc9.size
      have HFIN : Hid (StepP base N F boot on cell t sg rg gl cap av tag nt w (.returned (.bool true)) (w9.setCell ⟨sg, 2, none⟩ (.int .i64 ((t : Int) + 1)))) := Lib.hid (by
        have hsgx : sg < wx.heap.size := HI1.out.st.s.lt
        have hsg' : nt' sg ≠ 99 := by rw [HI1.out.st.os]; omega
        have h9sg : tag9 sg = 98 := by rw [htg9 sg hsgx]; exact (HN8.out sg hsg').1
        have hcs : Chg (· = sg) w9 (w9.setCell ⟨sg, 2, none⟩ (.int .i64 ((t : Int) + 1))) := (Chg.refl _ _).set_at _ _
        refine ⟨rfl, tag9, P9, nt', Q', ?_, ?_, fun b hb => ?_, fun b hb => ?_, ?_⟩
        · rw [← HOWN.out]
          exact hr9.chg hcs fun b hb => by
            have e : b = sg := hb
            have h2 := hr9.bd.2
            rw [e, h9sg]; omega
        · have := (hst9.tick ((t : Int) + 1)).congr (nd' := ndT N F boot on cell (t + 1)) (fun j hj => by rw [if_pos hj])
          push_cast
          exact this
        · have hbx : b < wx.heap.size := by
            rcases Nat.lt_or_ge b wx.heap.size with h1 | h1
            · exact h1
            · exact absurd (HI1.out.st.hi b h1) hb
          obtain ⟨k1, k2⟩ := HN8.out b hb
          exact ⟨by rw [htg9 b hbx]; exact k1, k2⟩
        · exact ⟨by rw [htg9 b (by omega), HTG8.out b hb], HI1.out.lo b (by omega)⟩
        · have k1 : Chg (fun b => Rgs tag N b ∨ nt b ≠ 99) w w5 := (HC8.out.mono fun b _ h => .inl h).trans (Chg.of_below HB5.out _)
          have k2 := k1.trans' HI1.out.c fun b hb h => by
            rcases h with h | h
            · exact .inr (by omega)
            · omega
          have k3 := k2.trans' hc9 fun b hb h => .inl (by unfold Rgs at h ⊢; rwa [HTG8.out b hb] at h)
          exact k3.trans' hcs fun b hb h => .inr (by rw [show b = sg from h]; exact HSG.out.1))
      clear hst9 hr9 htg9 hc9 HSC c0
      go_wp2_with fail
      go_ret
      exact HFIN.out
end Go.Proofs.Ytbdklfcgcmdgaaa
