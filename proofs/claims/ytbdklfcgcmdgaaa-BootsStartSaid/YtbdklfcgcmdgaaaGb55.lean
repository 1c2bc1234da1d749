/-
  sennitlaw18.BootsStart, walked.
-/
import Derived.Test.YtbdklfcgcmdgaaaGb54
namespace Go.Proofs.Ytbdklfcgcmdgaaa
open Go.RowKit
set_option linter.unusedVariables false
set_option linter.unusedSimpArgs false

/-- when the last of the right ones is on -/
def onF (N : Nat) (F : FltM) (pw boot : Nat → Int) : Nat → Int
  | 0 => 0
  | k + 1 => if badB N F k = true then onF N F pw boot k else max (onF N F pw boot k) (pw k + boot k)
theorem onF_range {N : Nat} {F : FltM} {pw boot : Nat → Int} (h1 : ∀ i, 0 ≤ pw i ∧ pw i < 40) (h2 : ∀ i, 0 ≤ boot i ∧ boot i < 20) (k : Nat) : 0 ≤ onF N F pw boot k ∧ onF N F pw boot k ≤ 60 := by
  induction k with
  | zero => unfold onF; omega
  | succ k ih =>
    have a1 := h1 k
    have a2 := h2 k
    unfold onF
    split <;> omega
theorem onF_le {N : Nat} {F : FltM} {pw boot : Nat → Int} {i : Nat} (hb : badB N F i = false) : ∀ k, i < k → pw i + boot i ≤ onF N F pw boot k
  | 0, h => by omega
  | k + 1, h => by
    unfold onF
    by_cases hik : i = k
    · subst hik
      rw [if_neg (by rw [hb]; simp)]
      omega
    · have ih := onF_le (pw := pw) (boot := boot) hb k (by omega)
      split <;> omega
theorem cntG_full {N : Nat} {F : FltM} {nd : Nat → NdM} (h : ∀ i, i < N → badB N F i = false → (nd i).sure = true) : ∀ k, k ≤ N → cntG N F nd k + (if F.link = false ∧ F.at_ % N < k then 1 else 0) = k
  | 0, _ => by simp [cntG]
  | k + 1, hk => by
    have ih := cntG_full h k (by omega)
    unfold cntG
    cases hb : badB N F k with
    | true =>
      obtain ⟨e1, e2⟩ := badB_iff.1 hb
      rw [if_neg (by simp)]
      rw [if_neg (fun hh => by have := hh.2; omega)] at ih
      rw [if_pos ⟨e2, by omega⟩]
      omega
    | false =>
      have hs := h k (by omega) hb
      rw [if_pos ⟨rfl, hs⟩]
      have hn := badB_not hb
      by_cases hl : F.link = false
      · have hne : F.at_ % N ≠ k := fun e => hn ⟨e, hl⟩
        by_cases hlt : F.at_ % N < k
        · rw [if_pos ⟨hl, hlt⟩] at ih
          rw [if_pos ⟨hl, by omega⟩]
          omega
        · rw [if_neg (fun hh => hlt hh.2)] at ih
          rw [if_neg (fun hh => by have := hh.2; omega)]
          omega
      · rw [if_neg (fun hh => hl hh.1)] at ih
        rw [if_neg (fun hh => hl hh.1)]
        omega
theorem showF_le (W : List Int) : showF W ≤ 1099511627776 := by
  unfold showF
  split <;> omega
set_option maxRecDepth 100000 in
set_option maxHeartbeats 8000000 in
theorem bootsStart_any (p : Int) (hp : 0 ≤ p ∧ p ≤ 255) (N : Nat) (hN : 4 + p % 13 = (N : Int)) (pa : Option Addr) (pl pc : Nat) (Ps : List Int) (ba : Option Addr) (bl bc : Nat) (Bs : List Int) (F : FltM) (aa : Option Addr) (an ac : Nat) (ca : Option Addr) (cl cc : Nat) (X : List (List Value)) (w : World)
    (hA : RdAs (· < w.heap.size) w aa an F.acts) (ha1 : an ≤ ac) (ha2 : ac ≤ maxLen) (ha3 : an ≤ 140737488355328) (hfz : ∀ x ∈ F.acts, x.row.t.length ≤ 140737488355328) (hf : F.at_ < 256 ∧ F.which < 256) (hfo : ∀ a ∈ F.acts, a.row.ok)
    (hP : RdYs w pa pl Ps) (hB : RdYs w ba bl Bs) (hX : RdCs (· < w.heap.size) w ca cl X) (hx1 : cl ≤ cc) (hx2 : cc ≤ maxLen) :
    Calls Try.prog 10 #[.agg #[.int .u8 p, .slice pa pl pc, .slice ba bl bc], .agg (F.vals (.slice aa an ac)).toArray, .slice ca cl cc] w fun e w' => e = .returned (.bool true) ∧ Below w.heap.size w w' := by
  have h4 : 4 ≤ N := by omega
  have h16 : N ≤ 16 := by omega
  obtain ⟨hp0, hp1⟩ := hp
  have HFo := Lib.hid hfo
  have HA := Lib.hid (And.intro hA (And.intro ha1 (And.intro ha2 ha3)))
  have HF := Lib.hid hf
  have HBs := Lib.hid hB
  have HPs := Lib.hid hP
  have HX := Lib.hid hX
  have HFG : Hid (∀ w' : World, Below w.heap.size w w' → Calls Try.prog 28 #[.agg #[.bool F.link, .int .u8 F.at_, .int .u8 F.which, .slice aa an ac]] w' (FGreat w')) := Lib.hid fun w' hb =>
    fgreat_any (· < w.heap.size) F aa an ac w' (hA.below hb) ha1 ha2 ha3 hfz
  have HB0 : Hid (Below w.heap.size w ((w.alloc (.cells #[.int .u8 p, .slice pa pl pc, .slice ba bl bc] 120)).alloc (.cells #[.bool F.link, .int .u8 F.at_, .int .u8 F.which, .slice aa an ac] 88))) := Lib.hid (((Below.refl _ _).alloc (Nat.le_refl _) _).alloc (by simp) _)
  have HK1 : Hid (Blk ((w.alloc (.cells #[.int .u8 p, .slice pa pl pc, .slice ba bl bc] 120)).alloc (.cells #[.bool F.link, .int .u8 F.at_, .int .u8 F.which, .slice aa an ac] 88)) w.heap.size 120 #[.int .u8 p, .slice pa pl pc, .slice ba bl bc]) := Lib.hid ((Blk.new _ _ _).alloc _)
  have HK0 : Hid (Blk ((w.alloc (.cells #[.int .u8 p, .slice pa pl pc, .slice ba bl bc] 120)).alloc (.cells #[.bool F.link, .int .u8 F.at_, .int .u8 F.which, .slice aa an ac] 88)) (w.heap.size + 1) 88 #[.bool F.link, .int .u8 F.at_, .int .u8 F.which, .slice aa an ac]) := Lib.hid (by
    have := Blk.new (w.alloc (.cells #[.int .u8 p, .slice pa pl pc, .slice ba bl bc] 120)) 88 #[.bool F.link, .int .u8 F.at_, .int .u8 F.which, .slice aa an ac]
    simpa using this)
  clear hA hf hfz hfo hB hP hX ha1 ha2 ha3
  show Calls _ _ #[.agg #[.int .u8 p, .slice pa pl pc, .slice ba bl bc], .agg #[.bool F.link, .int .u8 F.at_, .int .u8 F.which, .slice aa an ac], .slice ca cl cc] w _
  go_enter Try.func10, Try.ntmps10
  go_upto_region 1 with fail
  generalize (w.alloc (.cells #[.int .u8 p, .slice pa pl pc, .slice ba bl bc] 120)).alloc (.cells #[.bool F.link, .int .u8 F.at_, .int .u8 F.which, .slice aa an ac] 88) = w0 at HB0 HK0 HK1 ⊢
  obtain ⟨fb, hfb⟩ : ∃ fb, fb = w.heap.size + 1 := ⟨_, rfl⟩
  rw [← hfb] at HK0 ⊢
  clear hfb
  have c0 := HK0.out.cell 0
  have c1 := HK0.out.cell 1
  have c2 := HK0.out.cell 2
  have c3 := HK0.out.cell 3
  simp at c0 c1 c2 c3
  go_wp2_with fail
  (with_reducible refine (HFG.out w0 HB0.out).mono ?_)
  rintro e w1 ⟨⟨bb, rfl⟩, hb1⟩
  have HB1 := Lib.hid (HB0.out.trans (hb1.mono HB0.out.size))
  have HKF := Lib.hid (HK0.out.below hb1 HK0.out.lt)
  have HKS := Lib.hid (HK1.out.below hb1 HK1.out.lt)
  clear hb1 c0 c1 c2 c3 HFG HK0 HK1 HB0
  have s0 : w1.cell? ⟨w.heap.size, 0, none⟩ = some (.int .u8 p) := HKS.out.cell 0
  have s1 : w1.cell? ⟨w.heap.size, 1, none⟩ = some (.slice pa pl pc) := HKS.out.cell 1
  have s2 : w1.cell? ⟨w.heap.size, 2, none⟩ = some (.slice ba bl bc) := HKS.out.cell 2
  by_cases hgo : bb = false ∧ cl ≤ 40 ∧ pl ≤ 40 ∧ bl ≤ 40
  · obtain ⟨rfl, hc40, hp40, hb40⟩ := hgo
    have hb40' : ¬ (40 : Int) < bl := by omega
    have hc40' : ¬ (40 : Int) < cl := by omega
    have hp40' : ¬ (40 : Int) < pl := by omega
    have hb0 : 0 ≤ p % 13 := by omega
    have hb13 : p % 13 < 13 := by omega
    have hm : madeOk (.int .i64 (N : Int)) (.int .i64 (N : Int)) = true := by simp [madeOk]; omega
    go_upto_region 5 with fail
    have HKI : Hid (Blk (w1.alloc (.cells (zrep [Value.int .i64 0] N).toArray 3)) w1.heap.size 3 (intL N fun j => if j < 0 then ofF Bs j 20 else 0).toArray) := Lib.hid (by
      have h1 := Blk.new w1 3 (zrep [Value.int .i64 0] N).toArray
      rw [show (intL N fun j => if j < 0 then ofF Bs j 20 else 0) = intL N fun _ => 0 from by simp]
      rwa [zrep_intL] at h1 ⊢)
    have HB2 : Hid (Below w1.heap.size w1 (w1.alloc (.cells (zrep [Value.int .i64 0] N).toArray 3))) := Lib.hid ((Below.refl _ _).alloc (Nat.le_refl _) _)
    generalize w1.alloc (.cells (zrep [Value.int .i64 0] N).toArray 3) = w2 at HKI HB2 ⊢
    obtain ⟨ib, hib⟩ : ∃ ib, ib = w1.heap.size := ⟨_, rfl⟩
    rw [← hib] at HKI HB2 ⊢
    have HIB := Lib.hid hib
    have hw1 : w.heap.size < ib := by have := HKS.out.lt; omega
    have hfib : fb < ib := by have := HKF.out.lt; omega
    clear hib s0 s1 s2 hN hb0 hb13
    have HM := Lib.hid hm
    go_wp2_with fail
    go_loopw [10] (fun s10 wr => ∃ k : Nat, k ≤ N ∧ s10 = .int .i64 k ∧ Below ib w1 wr ∧ Blk wr ib 3 (intL N fun j => if j < k then ofF Bs j 20 else 0).toArray) (fun i _ => N - (intOf i).toNat)
    case atStart => exact ⟨0, by omega, rfl, HB2.out, HKI.out⟩
    case round =>
      obtain ⟨k, hk, rfl, hbr, hkb⟩ := hrel
      by_cases hkN : k < N
      · have hkN1 : (k : Int) < N := by omega
        have hk0 : (0 : Int) ≤ k := by omega
        have s2 : wr.cell? ⟨w.heap.size, 2, none⟩ = some (.slice ba bl bc) := (hbr.cell (p := ⟨w.heap.size, 2, none⟩) hw1).trans (HKS.out.cell 2)
        have di : wr.cell? ⟨ib, k, none⟩ = some (.int .i64 (if k < k then ofF Bs k 20 else 0)) := by rw [hkb.cell]; simp only [List.getElem?_toArray]; exact intL_at hkN
        have zi := hkb.frozen k
        have HOF : Hid (Calls Try.prog 43 #[.slice ba bl bc, .int .i64 k, .int .i64 20] wr (OfP (ofF Bs k 20) wr)) := Lib.hid (of18_any (cap := bc) k 20 (by omega) (by omega) (by omega) (by omega) wr (HBs.out.below (HB1.out.trans (hbr.mono (by have := HIB.out; have := HB1.out.size; omega)))))
        have hb2 := hkb.set_ k (.int .i64 (ofF Bs k 20))
        rw [List.setIfInBounds_toArray, intL_set _ hkN] at hb2
        have HE := Lib.hid (And.intro (hbr.setCell (p := ⟨ib, k, none⟩) (Nat.le_refl _) (.int .i64 (ofF Bs k 20))) hb2)
        clear hbr hkb hb2
        go_wp2_with fail
        (with_reducible refine HOF.out.mono ?_)
        rintro e w3 ⟨rfl, rfl⟩
        go_wp2_with fail
        exact ⟨⟨k + 1, by omega, by go_num, HE.out.1, HE.out.2⟩, by simp [intOf]; omega⟩
      · have hkN1 : ¬ (k : Int) < N := by omega
        obtain rfl : N = k := by omega
        obtain ⟨w3, rfl⟩ : ∃ w3, w3 = wr := ⟨_, rfl⟩
        have HB3 := Lib.hid (HB1.out.trans (hbr.mono (by have := HIB.out; have := HB1.out.size; omega)))
        have hf3 := HKF.out.below (by rw [← HIB.out]; exact hbr) HKF.out.lt
        have c0 := hf3.cell 0
        have c1 := hf3.cell 1
        have c2 := hf3.cell 2
        have c3 := hf3.cell 3
        simp at c0 c1 c2 c3
        obtain ⟨boot, hboot⟩ : ∃ boot : Nat → Int, boot = fun j => ofF Bs j 20 := ⟨_, rfl⟩
        have HBT : Hid (∀ i, 0 ≤ boot i ∧ boot i ≤ 4096) := Lib.hid fun i => by
          rw [hboot]
          have := ofF_range (X := Bs) (i := i) (most := 20) (by omega)
          exact ⟨this.1, by show ofF Bs i 20 ≤ 4096; omega⟩
        obtain ⟨hA, ha1, ha2, ha3⟩ := HA.out
        have HNS : Hid (Calls Try.prog 44 #[.int .i64 N, .agg #[.bool F.link, .int .u8 F.at_, .int .u8 F.which, .slice aa an ac], .slice (some ⟨ib, 0, none⟩) N N] w3 (NewStartP N F (.slice aa an ac) boot w3)) := Lib.hid (newStart_any N F aa an ac ib N boot w3 h4 h16 HF.out ((hA.below HB3.out).mono fun b hb hl => by have := HB3.out.size; omega) ha1 ha2 ha3 hkb.lt (fun i hi => ⟨by rw [hkb.cell]; simp only [List.getElem?_toArray]; rw [intL_at hi, if_pos hi, hboot], HBT.out i⟩))
        obtain ⟨pw, hpw⟩ : ∃ pw : Nat → Int, pw = fun j => ofF Ps j 40 := ⟨_, rfl⟩
        have HPWR : Hid (∀ i, 0 ≤ pw i ∧ pw i < 40) := Lib.hid fun i => by
          rw [hpw]
          exact ofF_range (X := Ps) (i := i) (most := 40) (by omega)
        have HBTR : Hid (∀ i, 0 ≤ boot i ∧ boot i < 20) := Lib.hid fun i => by
          rw [hboot]
          exact ofF_range (X := Bs) (i := i) (most := 20) (by omega)
        have HPW : Hid (∀ i, ofF Ps i 40 = pw i) := Lib.hid fun i => by rw [hpw]
        have HBO : Hid (∀ w', Below w3.heap.size w3 w' → ∀ i, i < N → w'.cell? ⟨ib, i, none⟩ = some (.int .i64 (boot i))) := Lib.hid fun w' hb i hi => by
          rw [hb.cell (p := ⟨ib, i, none⟩) hkb.lt, hkb.cell]
          simp only [List.getElem?_toArray]
          rw [intL_at hi, if_pos hi, hboot]
        have HFL : Hid (∀ w', Below w3.heap.size w3 w' → w'.cell? ⟨fb, 0, none⟩ = some (.bool F.link)) := Lib.hid fun w' hb => (hb.cell (p := ⟨fb, 0, none⟩) hf3.lt).trans (hf3.cell 0)
        have HS1 : Hid (∀ w', Below w3.heap.size w3 w' → w'.cell? ⟨w.heap.size, 1, none⟩ = some (.slice pa pl pc)) := Lib.hid fun w' hb => (hb.cell (p := ⟨w.heap.size, 1, none⟩) (by have := hbr.size; have := HIB.out; show w.heap.size < _; omega)).trans ((hbr.cell (p := ⟨w.heap.size, 1, none⟩) hw1).trans (HKS.out.cell 1))
        have hw1s : w1.heap.size ≤ w3.heap.size := hbr.size
        clear hbr hkb hf3 hA ha1 ha2 ha3 hboot hpw hk HKI HB2 HKF HKS
        go_wp2_with fail
        (with_reducible refine HNS.out.mono ?_)
        rintro e w4 hns
        obtain ⟨on, hon⟩ : ∃ on : Nat → Nat → Bool, on = fun (t i : Nat) => badB N F i || decide (pw i ≤ (t : Int)) := ⟨_, rfl⟩
        have HON : Hid (∀ t i, on t i = (badB N F i || decide (pw i ≤ (t : Int)))) := Lib.hid (by rw [hon]; exact fun _ _ => rfl)
        obtain ⟨sg, rg, gl, cap, tag, nt, P, Q, rfl, hbs, hbel⟩ := BtS.start hns on X
        have HS4 := Lib.hid hbs
        have HB34 := Lib.hid hbel
        have hw3 := HB3.out.size
        obtain ⟨bs, hbse⟩ : ∃ bs, bs = w3.heap.size := ⟨_, rfl⟩
        rw [← hbse] at HS4 hw3 HB34 HBO HFL HS1 hw1s
        clear hns hbs hbel hon c0 c1 c2 c3 HNS hbse
        obtain ⟨T, hT⟩ : ∃ T : Nat, onF N F pw boot N = (T : Int) := ⟨(onF N F pw boot N).toNat, by have := (onF_range (N := N) (F := F) HPWR.out HBTR.out N).1; omega⟩
        have hT60 : T ≤ 60 := by have := (onF_range (N := N) (F := F) HPWR.out HBTR.out N).2; omega
        have HTT := Lib.hid hT
        clear hT
        have hgcap := HS4.out.s.len.1
        go_wp2_with fail
        go_loopw [9, 12] (fun s9 s12 wr => ∃ k : Nat, k ≤ N ∧ s12 = .int .i64 k ∧ s9 = .int .i64 (onF N F pw boot k) ∧ Below w4.heap.size w4 wr) (fun _ i _ => N - (intOf i).toNat)
        case atStart => exact ⟨0, by omega, rfl, rfl, Below.refl _ _⟩
        case round =>
          obtain ⟨k, hk, rfl, rfl, hbr⟩ := hrel
          obtain ⟨wq, rfl⟩ : ∃ wq, wq = wr := ⟨_, rfl⟩
          by_cases hkN : k < N
          · have hkN1 : (k : Int) < N := by omega
            have hk0 : (0 : Int) ≤ k := by omega
            have HSQ := Lib.hid (HS4.out.below hbr)
            have HBQ := Lib.hid hbr
            have c0 : wq.cell? ⟨sg, 0, none⟩ = some (.pointer (some ⟨rg, 0, none⟩)) := HSQ.out.s.s.cell 0
            have HBI : Hid (Calls Try.prog 34 #[.pointer (some ⟨rg, 0, none⟩), .int .i64 k] wq (BadPost (badB N F k) wq)) := Lib.hid (bad_node HSQ.out.r (Below.refl _ _) (rgT_N N F on _ 0).1 (rgT_N N F on _ 0).2 hkN)
            obtain ⟨q, hq⟩ : ∃ q, q = badB N F k := ⟨_, rfl⟩
            rw [← hq] at HBI
            have HQ := Lib.hid hq
            clear hq hbr
            go_wp2_with fail
            (with_reducible refine HBI.out.mono ?_)
            rintro e wb ⟨rfl, hbb⟩
            have HBB := Lib.hid (HBQ.out.trans (hbb.mono HBQ.out.size))
            have hbsb : bs ≤ w4.heap.size := HS4.out.le
            have HB3B := Lib.hid (HB34.out.trans (HBB.out.mono hbsb))
            clear hbb c0 HBI HSQ HBQ
            cases q with
            | true =>
              have hn : onF N F pw boot (k + 1) = onF N F pw boot k := by rw [onF, if_pos HQ.out.symm]
              have HNN := Lib.hid hn
              clear hn
              go_wp2_with fail
              exact ⟨⟨k + 1, by omega, by go_num, by rw [HNN.out], HBB.out⟩, by simp [intOf]; omega⟩
            | false =>
              obtain ⟨z, hz⟩ : ∃ z, z = onF N F pw boot k := ⟨_, rfl⟩
              have hn : onF N F pw boot (k + 1) = max z (pw k + boot k) := by rw [onF, if_neg (by rw [← HQ.out]; simp), hz]
              have HNN := Lib.hid hn
              have hzr := onF_range (N := N) (F := F) HPWR.out HBTR.out k
              rw [← hz] at hzr ⊢
              have hpr := HPWR.out k
              have hbr := HBTR.out k
              obtain ⟨pk, hpk⟩ : ∃ pk, pk = pw k := ⟨_, rfl⟩
              obtain ⟨bk, hbk⟩ : ∃ bk, bk = boot k := ⟨_, rfl⟩
              have HPK := Lib.hid (And.intro hpk hbk)
              rw [← hpk] at hpr
              rw [← hbk] at hbr
              have wrs : IntKind.i64.wrap (pk + bk) = pk + bk := IntWalk.i64_in _ (by omega)
              have F17 : Hid (∀ w', Below wb.heap.size wb w' → w'.cell? ⟨w.heap.size, 1, none⟩ = some (.slice pa pl pc) ∧ w'.cell? ⟨ib, k, none⟩ = some (.int .i64 bk)) := Lib.hid fun w' hb => by
                have hb3 := HB3B.out.trans (hb.mono (by have := HBB.out.size; omega))
                exact ⟨HS1.out w' hb3, by rw [HPK.out.2]; exact HBO.out w' hb3 k hkN⟩
              have HOF : Hid (∀ w', Below wb.heap.size wb w' → Calls Try.prog 43 #[.slice pa pl pc, .int .i64 k, .int .i64 40] w' (OfP pk w')) := Lib.hid fun w' hb => by
                have h1 := of18_any (cap := pc) k 40 (by omega) (by omega) (by omega) (by omega) w' (HPs.out.below (HB3.out.trans ((HB3B.out.trans (hb.mono (by have := HBB.out.size; omega))).mono hw3)))
                rw [HPK.out.1, ← HPW.out k]
                exact h1
              clear hn hz hpk hbk HBTR
              go_upto_region 17 with fail
              go_region_held3 (fun w' => w'.cell? ⟨w.heap.size, 1, none⟩ = some (.slice pa pl pc) ∧ w'.cell? ⟨ib, k, none⟩ = some (.int .i64 bk))
                (with_reducible (first | assumption | exact F17.out _ (Below.refl _ _).drew))
                ((first | ((with_reducible refine (HOF.out _ (Below.refl _ _).drew).mono ?_); rintro e w17 ⟨rfl, rfl⟩)))
              go_wp2_with fail
              exact ⟨⟨k + 1, by omega, by go_num, by rw [HNN.out, HPK.out.1, HPK.out.2], HBB.out.drew⟩, by simp [intOf]; omega⟩
          · have hkN1 : ¬ (k : Int) < N := by omega
            obtain rfl : N = k := by omega
            rw [HTT.out]
            have HS5 := Lib.hid (HS4.out.below hbr)
            have hbsb : bs ≤ w4.heap.size := HS4.out.le
            have HB35 := Lib.hid (HB34.out.trans (hbr.mono hbsb))
            clear hbr HS4 HB34 hk
            have hall : ∀ t i, i < N → T ≤ t → on t i = true := fun t i hi ht => by
              rw [HON.out]
              cases hb : badB N F i with
              | true => rfl
              | false =>
                have h1 := onF_le (pw := pw) (boot := boot) hb N hi
                rw [HTT.out] at h1
                have h2 := (HBTR.out i).1
                simp; omega
            have hsy : ∀ t k, k < N → ¬ Bd N F k → T ≤ t → sayT N F boot on (cellsC X N) t k = true := fun t k hk hb ht => by
              have hbb : badB N F k = false := by
                cases h : badB N F k with
                | true => exact absurd (badB_iff.1 h) hb
                | false => rfl
              have h1 := onF_le (pw := pw) (boot := boot) hbb N hk
              rw [HTT.out] at h1
              have h2 := (HPWR.out k).1
              refine say_on (fun i => (HBT.out i).1) (a := (pw k).toNat) (fun t' ha hb' => ?_) (by omega)
              rw [HON.out]
              have : pw k ≤ (t' : Int) := by omega
              simp [this]
            obtain ⟨i0, hi0⟩ : ∃ i0, i0 = if badB N F 0 = true then 1 else 0 := ⟨_, rfl⟩
            have hi0N : i0 < N := by rw [hi0]; split <;> omega
            have hi0b : badB N F i0 = false := by
              rw [hi0]
              cases hb : badB N F 0 with
              | false => exact hb
              | true =>
                show badB N F 1 = false
                cases h1 : badB N F 1 with
                | false => rfl
                | true =>
                  have := (badB_iff.1 hb).1
                  have := (badB_iff.1 h1).1
                  omega
            have HI0 := Lib.hid (And.intro hi0 hi0b)
            have HALL := Lib.hid (And.intro hall hsy)
            clear hi0 hi0b hall hsy
            have HCO : Hid (∀ t i, okL cellK (cellsC X N t i) = true) := Lib.hid (cellsC_ok HX.out.2.1 N)
            go_wp2_with fail
            go_loopw [13, 14] (fun s13 s14 wr => ∃ (t : Nat) (last : Int) (tag nt : Nat → Nat) (P : RgP) (Q : Nat → NdP), t ≤ 200 ∧ s14 = .int .i64 t ∧ s13 = .int .i64 last ∧ (t ≤ T + 6 * N → last = -1) ∧ (T + 6 * N < t → last = (ndT N F boot on (cellsC X N) t i0).shows) ∧ BtS bs N F boot on X t sg rg gl cap (.slice aa an ac) tag nt P Q wr ∧ Below bs w3 wr) (fun _ i _ => 200 - (intOf i).toNat)
            case atStart => exact ⟨0, -1, tag, nt, P, Q, by omega, rfl, rfl, fun _ => rfl, fun h => by omega, HS5.out, HB35.out⟩
            case round =>
              clear HS5 HB35
              obtain ⟨t, last, tag, nt, P, Q, ht, rfl, rfl, hl1, hl2, hbs, hb3⟩ := hrel
              obtain ⟨w5, rfl⟩ : ∃ w5, w5 = wr := ⟨_, rfl⟩
              have HS5 := Lib.hid hbs
              have HB35 := Lib.hid hb3
              have HL := Lib.hid (And.intro hl1 hl2)
              clear hbs hb3 hl1 hl2
              have wr6 : IntKind.i64.wrap (6 * (N : Int)) = 6 * N := IntWalk.i64_in _ (by omega)
              have wr7 : IntKind.i64.wrap ((T : Int) + 6 * N) = (T : Int) + 6 * N := IntWalk.i64_in _ (by omega)
              have wr9 : IntKind.i64.wrap ((T : Int) + 6 * N + 9) = (T : Int) + 6 * N + 9 := IntWalk.i64_in _ (by omega)
              by_cases hlt : t < T + 6 * N + 9
              · have hlt1 : (t : Int) < (T : Int) + 6 * N + 9 := by omega
                have hm := HM.out
                go_upto_region 23 with fail
                have HKB : Hid (Blk (w5.alloc (.cells (zrep [Value.bool false] N).toArray 4)) w5.heap.size 4 (onL N fun j => decide (j < 0) && on t j).toArray) := Lib.hid (by
                  have h1 := Blk.new w5 4 (zrep [Value.bool false] N).toArray
                  rw [show (onL N fun j => decide (j < 0) && on t j) = onL N fun _ => false from by simp]
                  rw [zrep_onL] at h1 ⊢
                  exact h1)
                have HBA : Hid (Below w5.heap.size w5 (w5.alloc (.cells (zrep [Value.bool false] N).toArray 4))) := Lib.hid ((Below.refl _ _).alloc (Nat.le_refl _) _)
                generalize w5.alloc (.cells (zrep [Value.bool false] N).toArray 4) = w6 at HKB HBA ⊢
                have hbs5 : bs ≤ w5.heap.size := HS5.out.le
                have HS6 := Lib.hid (HS5.out.below HBA.out)
                have HB36 := Lib.hid (HB35.out.trans (HBA.out.mono hbs5))
                have HPB : Hid (tag w5.heap.size = 98 ∧ nt w5.heap.size = 99) := Lib.hid ⟨HS5.out.r.tg _ (Nat.le_refl _), HS5.out.s.hi _ (Nat.le_refl _)⟩
                generalize w5.heap.size = pb at HKB HPB hbs5 ⊢
                clear HBA HS5 HB35 hm
                go_wp2_with fail
                go_loopw [16] (fun s16 wq => ∃ k : Nat, k ≤ N ∧ s16 = .int .i64 k ∧ Chg (· = pb) w6 wq ∧ Blk wq pb 4 (onL N fun j => decide (j < k) && on t j).toArray) (fun k _ => N - (intOf k).toNat)
                case atStart => exact ⟨0, by omega, rfl, Chg.refl _ _, HKB.out⟩
                case round =>
                  obtain ⟨k, hk, rfl, hch, hkb⟩ := hrel
                  obtain ⟨wq, rfl⟩ : ∃ wq, wq = wr := ⟨_, rfl⟩
                  have HSQ := Lib.hid (HS6.out.own_ hch HPB.out.1 HPB.out.2)
                  have HB3Q := Lib.hid (HB36.out.trans (hch.below (B := bs) (by have := HS6.out.le; omega) fun b hb => by have : b = pb := hb; omega))
                  by_cases hkN : k < N
                  · have hkN1 : (k : Int) < N := by omega
                    have hk0 : (0 : Int) ≤ k := by omega
                    have c0 : wq.cell? ⟨sg, 0, none⟩ = some (.pointer (some ⟨rg, 0, none⟩)) := HSQ.out.s.s.cell 0
                    have HBI : Hid (Calls Try.prog 34 #[.pointer (some ⟨rg, 0, none⟩), .int .i64 k] wq (BadPost (badB N F k) wq)) := Lib.hid (bad_node HSQ.out.r (Below.refl _ _) (rgT_N N F on _ t).1 (rgT_N N F on _ t).2 hkN)
                    obtain ⟨q, hq⟩ : ∃ q, q = badB N F k := ⟨_, rfl⟩
                    rw [← hq] at HBI
                    have HQ := Lib.hid hq
                    have HCH := Lib.hid hch
                    have HKQ := Lib.hid hkb
                    clear hq hch hkb
                    go_wp2_with fail
                    (with_reducible refine HBI.out.mono ?_)
                    rintro e wb ⟨rfl, hbb⟩
                    have hkb2 := HKQ.out.below hbb HKQ.out.lt
                    have HCB := Lib.hid (HCH.out.trans (Chg.of_below hbb _))
                    have HB3B := Lib.hid (HB3Q.out.trans (hbb.mono HSQ.out.le))
                    have don : wb.cell? ⟨pb, k, none⟩ = some (.bool (decide (k < k) && on t k)) := by rw [hkb2.cell]; simp only [List.getElem?_toArray]; exact onL_at hkN
                    have zon := hkb2.frozen k
                    obtain ⟨v, hv⟩ : ∃ v, v = on t k := ⟨_, rfl⟩
                    have hb2 := hkb2.set_ k (.bool v)
                    have hset : (onL N fun j => decide (j < k) && on t j).set k (.bool v) = onL N fun j => decide (j < k + 1) && on t j := by
                      have := onL_set (N := N) (on := fun j => decide (j < k) && on t j) (on' := fun j => decide (j < k + 1) && on t j) (i := k) (fun j _ hne => by
                        have : (j < k + 1) = (j < k) := by simp; omega
                        simp only [this])
                      simpa [hv] using this
                    rw [List.setIfInBounds_toArray, hset] at hb2
                    have HE := Lib.hid (And.intro (HCB.out.set_at k (.bool v)) hb2)
                    rw [HON.out, ← HQ.out] at hv
                    clear hbb hkb2 hb2 hset HBI c0 HCH HKQ
                    cases q with
                    | true =>
                      obtain rfl : v = true := by simpa using hv
                      clear hv
                      go_wp2_with fail
                      exact ⟨⟨k + 1, by omega, by go_num, HE.out.1, HE.out.2⟩, by simp [intOf]; omega⟩
                    | false =>
                      obtain ⟨pk, hpk⟩ : ∃ pk, pk = pw k := ⟨_, rfl⟩
                      rw [← hpk] at hv
                      have s1 := HS1.out wb HB3B.out
                      have HOF : Hid (Calls Try.prog 43 #[.slice pa pl pc, .int .i64 k, .int .i64 40] wb (OfP pk wb)) := Lib.hid (by
                        have h1 := of18_any (cap := pc) k 40 (by omega) (by omega) (by omega) (by omega) wb (HPs.out.below (HB3.out.trans (HB3B.out.mono hw3)))
                        rw [hpk, ← HPW.out k]
                        exact h1)
                      clear hpk
                      by_cases hpt : pk ≤ (t : Int)
                      · obtain rfl : v = true := by rw [hv]; simp [hpt]
                        clear hv
                        go_wp2_with fail
                        (with_reducible refine HOF.out.mono ?_)
                        rintro e w' ⟨rfl, rfl⟩
                        go_wp2_with fail
                        exact ⟨⟨k + 1, by omega, by go_num, HE.out.1, HE.out.2⟩, by simp [intOf]; omega⟩
                      · obtain rfl : v = false := by rw [hv]; simp; omega
                        have hpt' : decide (pk ≤ (t : Int)) = false := by simp; omega
                        clear hv
                        go_wp2_with fail
                        (with_reducible refine HOF.out.mono ?_)
                        rintro e w' ⟨rfl, rfl⟩
                        go_wp2_with fail
                        exact ⟨⟨k + 1, by omega, by go_num, HE.out.1, HE.out.2⟩, by simp [intOf]; omega⟩
                  · have hkN1 : ¬ (k : Int) < N := by omega
                    obtain ⟨w7, rfl⟩ : ∃ w7, w7 = wq := ⟨_, rfl⟩
                    have hkb' : (onL N fun j => decide (j < k) && on t j) = onL N fun j => on t j := onL_congr fun j hj => by
                      have : j < k := by omega
                      simp [this]
                    rw [hkb'] at hkb
                    have hbw7 := HB3.out.trans (HB3Q.out.mono hw3)
                    have HST := Lib.hid (step18_any (pc := N) (Sx := (· < w.heap.size)) h4 h16 HFo.out HBT.out (by omega) HSQ.out.r HSQ.out.s HSQ.out.le HSQ.out.n (fun i hi => by rw [hkb.cell]; simp only [List.getElem?_toArray]; exact onL_at hi) hkb.lt (fun h => by have := h.2; rw [HPB.out.1] at this; omega) HPB.out.2
                      (HX.out.keep hbw7.size fun b hb _ => hbw7.block b hb) (fun b hb => by
                        have h1 : b < w.heap.size := hb
                        obtain ⟨k1, k2⟩ := HSQ.out.lo b (by omega)
                        exact ⟨k2, fun hr => by have := hr.1; omega⟩) (by omega) hx1 hx2)
                    clear hkb hch hkb' hk HKB HS6 HB36 hbw7
                    go_wp2_with fail
                    (with_reducible refine HST.out.mono ?_)
                    rintro e w8 hst
                    obtain ⟨rfl, tag', nt', P', Q', hs8, hb8⟩ := HSQ.out.step hst
                    have HS8 := Lib.hid hs8
                    have HB38 := Lib.hid (HB3Q.out.trans hb8)
                    obtain ⟨c, hc⟩ := shows_c (boot := boot) (on := on) (cell := cellsC X N) HFo.out HCO.out (fun i => (HBT.out i).1) h4 h16 (t := t) (by omega)
                    have HAG := Lib.hid (hs8.agrees c hc)
                    clear hst hs8 hb8 hc HST HSQ HB3Q
                    go_wp2_with fail
                    (with_reducible refine HAG.out.mono ?_)
                    rintro e w9 ⟨rfl, hb9⟩
                    have HS9 := Lib.hid (HS8.out.below hb9)
                    have HB39 := Lib.hid (HB38.out.trans (hb9.mono HS8.out.le))
                    obtain ⟨m, hm⟩ : ∃ m, m = cntG N F (ndT N F boot on (cellsC X N) (t + 1)) N := ⟨_, rfl⟩
                    rw [← hm]
                    have HM2 := Lib.hid hm
                    clear hb9 HAG hm HS8 HB38
                    by_cases hlo : t < T + 6 * N
                    · have hlo1 : (t : Int) < (T : Int) + 6 * N := by omega
                      go_wp2_with fail
                      exact ⟨⟨t + 1, last, tag', nt', P', Q', by omega, by go_num, rfl, fun _ => HL.out.1 (by omega), fun h => by omega, HS9.out, HB39.out⟩, by simp [intOf]; omega⟩
                    · have hlo1 : ¬ (t : Int) < (T : Int) + 6 * N := by omega
                      have hfull := cntG_full (N := N) (F := F) (nd := ndT N F boot on (cellsC X N) (t + 1)) (fun i hi hb => sure_late HFo.out HCO.out (fun i => (HBT.out i).1) h4 h16 HALL.out.1 HALL.out.2 (t := t) (by omega) (by omega) hi (badB_not hb)) N (Nat.le_refl _)
                      rw [← HM2.out] at hfull
                      have hatN : F.at_ % N < N := Nat.mod_lt _ (by omega)
                      have hbi0 := badB_not HI0.out.2
                      have hlast : (last = -1) ∨ (0 ≤ last ∧ last ≤ 1099511627776 ∧ (ndT N F boot on (cellsC X N) (t + 1) i0).shows = last + 1) := by
                        by_cases he : t = T + 6 * N
                        · exact .inl (HL.out.1 (by omega))
                        · right
                          obtain ⟨t0, rfl⟩ : ∃ t0, t = t0 + 1 := ⟨t - 1, by omega⟩
                          have hl := HL.out.2 (by omega)
                          have h1 := shows_late HFo.out HCO.out (fun i => (HBT.out i).1) h4 h16 HALL.out.1 HALL.out.2 (t := t0) (by omega) (by omega) hi0N hbi0
                          have hsu := sure_late HFo.out HCO.out (fun i => (HBT.out i).1) h4 h16 HALL.out.1 HALL.out.2 (t := t0) (by omega) (by omega) hi0N hbi0
                          have h2 := (one_same HFo.out HCO.out (fun i => (HBT.out i).1) h4 h16 (t := t0) (by omega) hi0N hi0N hbi0 hbi0 hsu hsu).2
                          have h3 := shows_on (N := N) (F := F) (boot := boot) (cell := cellsC X N) (HALL.out.1 t0 i0 hi0N (by omega))
                          have h5 := showF_le (ndT N F boot on (cellsC X N) (t0 + 1) i0).ck
                          rw [← hl] at h1 h2 h3
                          exact ⟨h2, by omega, h1⟩
                      have HLA := Lib.hid hlast
                      obtain ⟨lk, hlk⟩ : ∃ lk, lk = F.link := ⟨_, rfl⟩
                      have y0 : w9.cell? ⟨fb, 0, none⟩ = some (.bool lk) := by rw [hlk]; exact HFL.out w9 HB39.out
                      have c0 : w9.cell? ⟨sg, 0, none⟩ = some (.pointer (some ⟨rg, 0, none⟩)) := HS9.out.s.s.cell 0
                      have HBI : Hid (Calls Try.prog 34 #[.pointer (some ⟨rg, 0, none⟩), .int .i64 0] w9 (BadPost (badB N F 0) w9)) := Lib.hid (bad_node (i := 0) HS9.out.r (Below.refl _ _) (rgT_N N F on _ (t + 1)).1 (rgT_N N F on _ (t + 1)).2 (by omega))
                      have hmv : (m : Int) = if lk = true then (N : Int) else (N : Int) - 1 := by
                        rw [hlk]
                        cases hll : F.link with
                        | true => rw [if_neg (by rw [hll]; simp)] at hfull; simp; omega
                        | false => rw [if_pos ⟨hll, hatN⟩] at hfull; simp; omega
                      obtain ⟨q0, hq0⟩ : ∃ q0, q0 = badB N F 0 := ⟨_, rfl⟩
                      rw [← hq0] at HBI
                      have HQ0 := Lib.hid hq0
                      have hii : i0 = if q0 = true then 1 else 0 := by rw [hq0]; exact HI0.out.1
                      obtain ⟨sh, hsh⟩ : ∃ sh, sh = (ndT N F boot on (cellsC X N) (t + 1) i0).shows := ⟨_, rfl⟩
                      have HSH := Lib.hid hsh
                      have HX9 : Hid (∀ w', Below w9.heap.size w9 w' → w'.cell? ⟨sg, 1, none⟩ = some (.slice (some ⟨gl, 0, none⟩) N cap) ∧ w'.cell? ⟨gl, i0, none⟩ = some (.pointer (some ⟨(Q' i0).g, 0, none⟩)) ∧ w'.cell? ⟨(Q' i0).g, 4, none⟩ = some (.int .i64 sh)) := Lib.hid fun w' hb => by
                        have h2 := (HS9.out.below hb).s
                        exact ⟨h2.s.cell 1, h2.at_ hi0N, by rw [hsh]; exact (h2.nd i0 hi0N).node.cell 4⟩
                      have HMV := Lib.hid hmv
                      have HII := Lib.hid hii
                      clear hfull hlast hlk hmv hq0 hii hsh hbi0
                      have wN : IntKind.i64.wrap ((N : Int) - 1) = (N : Int) - 1 := IntWalk.i64_in _ (by omega)
                      obtain ⟨mi, hmi⟩ : ∃ mi : Int, mi = (m : Int) := ⟨_, rfl⟩
                      rw [← hmi] at HMV ⊢
                      clear hmi
                      cases lk with
                      | true =>
                        obtain rfl : mi = (N : Int) := HMV.out
                        clear HMV
                        go_wp2_with fail
                        (with_reducible refine HBI.out.mono ?_)
                        rintro e w10 ⟨rfl, hb10⟩
                        have HS10 := Lib.hid (HS9.out.below hb10)
                        have HB310 := Lib.hid (HB39.out.trans (hb10.mono HS9.out.le))
                        obtain ⟨x1, x2, x3⟩ := HX9.out w10 hb10
                        clear hb10 HBI HS9 HB39 y0 c0 HX9
                        cases q0 with
                        | true =>
                          obtain rfl : i0 = 1 := HII.out
                          have hN1 : (1 : Int) < N := by omega
                          rcases HLA.out with rfl | ⟨h0, h1, h2⟩
                          · clear HLA
                            go_wp2_with fail
                            exact ⟨⟨t + 1, sh, tag', nt', P', Q', by omega, by go_num, rfl, fun h => by omega, fun _ => HSH.out, HS10.out, HB310.out⟩, by simp [intOf]; omega⟩
                          · have wl : IntKind.i64.wrap (last + 1) = last + 1 := IntWalk.i64_in _ (by omega)
                            obtain rfl : sh = last + 1 := HSH.out.trans h2
                            clear h2 HLA
                            go_wp2_with fail
                            exact ⟨⟨t + 1, last + 1, tag', nt', P', Q', by omega, by go_num, rfl, fun h => by omega, fun _ => HSH.out, HS10.out, HB310.out⟩, by simp [intOf]; omega⟩
                        | false =>
                          obtain rfl : i0 = 0 := HII.out
                          have hN1 : (0 : Int) < N := by omega
                          rcases HLA.out with rfl | ⟨h0, h1, h2⟩
                          · clear HLA
                            go_wp2_with fail
                            exact ⟨⟨t + 1, sh, tag', nt', P', Q', by omega, by go_num, rfl, fun h => by omega, fun _ => HSH.out, HS10.out, HB310.out⟩, by simp [intOf]; omega⟩
                          · have wl : IntKind.i64.wrap (last + 1) = last + 1 := IntWalk.i64_in _ (by omega)
                            obtain rfl : sh = last + 1 := HSH.out.trans h2
                            clear h2 HLA
                            go_wp2_with fail
                            exact ⟨⟨t + 1, last + 1, tag', nt', P', Q', by omega, by go_num, rfl, fun h => by omega, fun _ => HSH.out, HS10.out, HB310.out⟩, by simp [intOf]; omega⟩
                      | false =>
                        obtain rfl : mi = (N : Int) - 1 := HMV.out
                        clear HMV
                        go_wp2_with fail
                        (with_reducible refine HBI.out.mono ?_)
                        rintro e w10 ⟨rfl, hb10⟩
                        have HS10 := Lib.hid (HS9.out.below hb10)
                        have HB310 := Lib.hid (HB39.out.trans (hb10.mono HS9.out.le))
                        obtain ⟨x1, x2, x3⟩ := HX9.out w10 hb10
                        clear hb10 HBI HS9 HB39 y0 c0 HX9
                        cases q0 with
                        | true =>
                          obtain rfl : i0 = 1 := HII.out
                          have hN1 : (1 : Int) < N := by omega
                          rcases HLA.out with rfl | ⟨h0, h1, h2⟩
                          · clear HLA
                            go_wp2_with fail
                            exact ⟨⟨t + 1, sh, tag', nt', P', Q', by omega, by go_num, rfl, fun h => by omega, fun _ => HSH.out, HS10.out, HB310.out⟩, by simp [intOf]; omega⟩
                          · have wl : IntKind.i64.wrap (last + 1) = last + 1 := IntWalk.i64_in _ (by omega)
                            obtain rfl : sh = last + 1 := HSH.out.trans h2
                            clear h2 HLA
                            go_wp2_with fail
                            exact ⟨⟨t + 1, last + 1, tag', nt', P', Q', by omega, by go_num, rfl, fun h => by omega, fun _ => HSH.out, HS10.out, HB310.out⟩, by simp [intOf]; omega⟩
                        | false =>
                          obtain rfl : i0 = 0 := HII.out
                          have hN1 : (0 : Int) < N := by omega
                          rcases HLA.out with rfl | ⟨h0, h1, h2⟩
                          · clear HLA
                            go_wp2_with fail
                            exact ⟨⟨t + 1, sh, tag', nt', P', Q', by omega, by go_num, rfl, fun h => by omega, fun _ => HSH.out, HS10.out, HB310.out⟩, by simp [intOf]; omega⟩
                          · have wl : IntKind.i64.wrap (last + 1) = last + 1 := IntWalk.i64_in _ (by omega)
                            obtain rfl : sh = last + 1 := HSH.out.trans h2
                            clear h2 HLA
                            go_wp2_with fail
                            exact ⟨⟨t + 1, last + 1, tag', nt', P', Q', by omega, by go_num, rfl, fun h => by omega, fun _ => HSH.out, HS10.out, HB310.out⟩, by simp [intOf]; omega⟩
              · have hlt1 : ¬ (t : Int) < (T : Int) + 6 * N + 9 := by omega
                go_wp2_with fail
                refine (lives_any w5).mono ?_
                rintro e w9 ⟨rfl, hb9⟩
                have hle5 := HS5.out.le
                have HE := Lib.hid (HB3.out.trans ((HB35.out.trans (hb9.mono hle5)).mono hw3))
                clear hb9
                go_wp2_with fail
                go_ret
                exact ⟨rfl, HE.out⟩
  · cases bb with
    | true =>
      clear hgo
      go_wp2_with fail
      refine (lives_any w1).mono ?_
      rintro e w3 ⟨rfl, hb3⟩
      have HE := Lib.hid (HB1.out.trans (hb3.mono HB1.out.size))
      clear hb3
      go_wp2_with fail
      go_ret
      exact ⟨rfl, HE.out⟩
    | false =>
      by_cases h1 : cl ≤ 40
      · have h1' : ¬ (40 : Int) < cl := by omega
        by_cases h2 : pl ≤ 40
        · have h2' : ¬ (40 : Int) < pl := by omega
          have h3' : (40 : Int) < bl := by
            have : ¬ bl ≤ 40 := fun h => hgo ⟨rfl, h1, h2, h⟩
            omega
          clear hgo h1 h2
          go_wp2_with fail
          refine (lives_any w1).mono ?_
          rintro e w3 ⟨rfl, hb3⟩
          have HE := Lib.hid (HB1.out.trans (hb3.mono HB1.out.size))
          clear hb3
          go_wp2_with fail
          go_ret
          exact ⟨rfl, HE.out⟩
        · have h2' : (40 : Int) < pl := by omega
          clear hgo h1 h2
          go_wp2_with fail
          refine (lives_any w1).mono ?_
          rintro e w3 ⟨rfl, hb3⟩
          have HE := Lib.hid (HB1.out.trans (hb3.mono HB1.out.size))
          clear hb3
          go_wp2_with fail
          go_ret
          exact ⟨rfl, HE.out⟩
      · have h1' : (40 : Int) < cl := by omega
        clear hgo h1
        go_wp2_with fail
        refine (lives_any w1).mono ?_
        rintro e w3 ⟨rfl, hb3⟩
        have HE := Lib.hid (HB1.out.trans (hb3.mono HB1.out.size))
        clear hb3
        go_wp2_with fail
        go_ret
        exact ⟨rfl, HE.out⟩
end Go.Proofs.Ytbdklfcgcmdgaaa
