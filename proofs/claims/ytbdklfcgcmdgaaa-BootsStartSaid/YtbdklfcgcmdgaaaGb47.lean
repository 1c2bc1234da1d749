/-
  sennitlaw14.TracksOff, walked.
-/
import Derived.Test.YtbdklfcgcmdgaaaGb46
namespace Go.Proofs.Ytbdklfcgcmdgaaa
open Go.RowKit
set_option linter.unusedVariables false
set_option linter.unusedSimpArgs false

/-- numbers, read -/
def RdXs (w : World) (a : Option Addr) (len : Nat) (X : List Int) : Prop :=
  X.length = len ∧ ∀ (k : Nat) (x : Int), X[k]? = some x → (0 ≤ x ∧ x ≤ 65535) ∧ ∃ b off, a = some ⟨b, off, none⟩ ∧ b < w.heap.size ∧ w.cell? ⟨b, off + k, none⟩ = some (.int .u16 x)
theorem RdXs.at_ {w : World} {a : Option Addr} {len : Nat} {X : List Int} (h : RdXs w a len X) {k : Nat} (hk : k < len) : ∃ x b off, X[k]? = some x ∧ 0 ≤ x ∧ x ≤ 65535 ∧ a = some ⟨b, off, none⟩ ∧ b < w.heap.size ∧ w.cell? ⟨b, off + k, none⟩ = some (.int .u16 x) := by
  have hkk : X[k]? = some (X[k]'(by rw [h.1]; exact hk)) := List.getElem?_eq_getElem _
  obtain ⟨h1, b, off, h2, h3, h4⟩ := h.2 k _ hkk
  exact ⟨_, b, off, hkk, h1.1, h1.2, h2, h3, h4⟩
theorem RdXs.of {w : World} {a : Option Addr} {len : Nat} {vs : List Value} (h : Rd1 w a len vs) (hv : ∀ v ∈ vs, ∃ b : Int, v = .int .u16 b ∧ 0 ≤ b ∧ b ≤ 65535) : ∃ X, RdXs w a len X := by
  refine ⟨vs.map fun v => match v with | .int _ n => n | _ => 0, by simp [h.1], fun k x hx => ?_⟩
  rw [List.getElem?_map, Option.map_eq_some_iff] at hx
  obtain ⟨v, hk, rfl⟩ := hx
  obtain ⟨b, rfl, h1, h2⟩ := hv v (List.mem_of_getElem? hk)
  obtain ⟨g, off, e, hc⟩ := h.2 k _ hk
  exact ⟨⟨h1, h2⟩, g, off, e, World.block_lt_of_cell? w _ hc, hc⟩
/-- is a node on, by a number? -/
def onB (x : Int) (i : Nat) : Bool := bits BinOp.and IntKind.u16 (x / 2 ^ i) 1 == 0
/-- by tick and node -/
def onX (X : List Int) (q t i : Nat) : Bool := onB (X.getD (t / q % X.length) 0) i
theorem HB.other {W : World} {g g2 : Nat} {S : Nat → Prop} {ps : List (Rw × Value)} {w w' : World} (h : HB W g S ps w) (hc : Chg (· = g2) w w') (h1 : g ≠ g2) (h2 : ¬ S g2) (h3 : W.heap.size ≤ g2) : HB W g S ps w' := by
  obtain ⟨rest, hb⟩ := h.b
  exact ⟨⟨rest, hb.chg hc h1⟩, fun p hp => ⟨(h.ps p hp).1, (h.ps p hp).2.keep hc.size fun b hb hl => hc.block b hl fun e => h2 (e ▸ hb)⟩, h.lt, h.no, h.bel.trans (hc.below h.bel.size fun b hb => by subst hb; exact h3)⟩
theorem OwnI.other {W : World} {S : Nat → Prop} {h : Nat → Rw} {N i : Nat} {wr w' : World} (hh : OwnI W S h N i wr) {g2 : Nat} (hc : Chg (· = g2) wr w') (h1 : W.heap.size ≠ g2) (h2 : ¬ S g2) (h3 : W.heap.size ≤ g2) : OwnI W S h N i w' := by
  obtain ⟨ps, p1, p2, p3⟩ := hh
  exact ⟨ps, p1, p2, p3.other hc h1 h2 h3⟩
theorem OwnI.skip {W : World} {S : Nat → Prop} {h : Nat → Rw} {N i : Nat} {wr : World} (hh : OwnI W S h N i wr) (hr : h i = rw0) : OwnI W S h N (i + 1) wr := by
  obtain ⟨ps, p1, p2, p3⟩ := hh
  refine ⟨ps, p1, fun s hs => ?_, p3⟩
  obtain ⟨tv, e⟩ := p2 s hs
  refine ⟨tv, ?_⟩
  rw [e]
  by_cases hsi : s = i
  · subst hsi; rw [if_neg (by omega), if_pos (by omega), hr]
  · by_cases hlt : s < i
    · rw [if_pos hlt, if_pos (by omega)]
    · rw [if_neg hlt, if_neg (by omega)]
/-- the rows a node that is on says -/
def ownX (X : List Int) (q : Nat) (S : List Rw) (N t s : Nat) : Rw := if onX X q t s = true then ownS S N t s else rw0
theorem ownX_ok {X : List Int} {q : Nat} {S : List Rw} (h : ∀ r ∈ S, r.ok) (N t s : Nat) : (ownX X q S N t s).ok := by
  unfold ownX
  split
  · exact ownS_ok h N t s
  · exact rw0_ok'
set_option maxRecDepth 100000 in
set_option maxHeartbeats 8000000 in
theorem off_any (F : FltM) (aa : Option Addr) (an ac : Nat) (sa : Option Addr) (sl sc : Nat) (S : List Rw) (xa : Option Addr) (xl xc : Nat) (X : List Int) (w : World)
    (hA : RdAs (· < w.heap.size) w aa an F.acts) (ha1 : an ≤ ac) (ha2 : ac ≤ maxLen) (ha3 : an ≤ 140737488355328) (hfz : ∀ x ∈ F.acts, x.row.t.length ≤ 140737488355328) (hf : F.at_ < 256 ∧ F.which < 256)
    (hS : RdRs (· < w.heap.size) w sa sl S) (hs1 : sl ≤ sc) (hs2 : sc ≤ maxLen) (hsz : szW S) (hX : RdXs w xa xl X) (hxm : xl ≤ maxLen) :
    Calls Try.prog 6 #[.agg (F.vals (.slice aa an ac)).toArray, .slice sa sl sc, .slice xa xl xc] w fun e w' => e = .returned (.bool true) ∧ Below w.heap.size w w' := by
  unfold maxLen at hxm
  have HA := Lib.hid hA
  have HF := Lib.hid hf
  have HS := Lib.hid hS
  have HX := Lib.hid hX
  have HFG : Hid (∀ w' : World, Below w.heap.size w w' → Calls Try.prog 28 #[.agg #[.bool F.link, .int .u8 F.at_, .int .u8 F.which, .slice aa an ac]] w' (FGreat w')) := Lib.hid fun w' hb =>
    fgreat_any (· < w.heap.size) F aa an ac w' (hA.below hb) ha1 ha2 ha3 hfz
  have HFL : Hid (∀ w' : World, Below w.heap.size w w' → Calls Try.prog 29 #[.slice sa sl sc] w' (LightPost sl S w')) := Lib.hid fun w' hb =>
    light_any (· < w.heap.size) sa sl sc S w' (hS.keep hb.size fun b hb' _ => hb.block b hb') hs1 hs2 hsz
  have HNR : Hid (∀ (N : Nat), 4 ≤ N → N ≤ 16 → ∀ w' : World, Below w.heap.size w w' → Calls Try.prog 30 #[.int .i64 N, .agg #[.bool F.link, .int .u8 F.at_, .int .u8 F.which, .slice aa an ac]] w' (NewRingP (tagW w') N F (.slice aa an ac) w')) := Lib.hid fun N h4 h16 w' hb =>
    newRing_any (tagW w') N F aa an ac w' h4 h16 hf (fun b hb => tagW_hi hb) ((hA.below hb).mono fun b hbl _ => ⟨tagW_lo hbl, hbl⟩) ha1 ha2 ha3
  have HB0 : Hid (Below w.heap.size w (w.alloc (.cells #[.bool F.link, .int .u8 F.at_, .int .u8 F.which, .slice aa an ac] 88))) := Lib.hid ((Below.refl _ _).alloc (Nat.le_refl _) _)
  have HK0 : Hid (Blk (w.alloc (.cells #[.bool F.link, .int .u8 F.at_, .int .u8 F.which, .slice aa an ac] 88)) w.heap.size 88 #[.bool F.link, .int .u8 F.at_, .int .u8 F.which, .slice aa an ac]) := Lib.hid (Blk.new _ _ _)
  clear hA hS hf hfz hsz hX
  show Calls _ _ #[.agg #[.bool F.link, .int .u8 F.at_, .int .u8 F.which, .slice aa an ac], .slice sa sl sc, .slice xa xl xc] w _
  go_enter Try.func6, Try.ntmps6
  go_upto_region 1 with fail
  generalize w.alloc (.cells #[.bool F.link, .int .u8 F.at_, .int .u8 F.which, .slice aa an ac] 88) = w0 at HB0 HK0 ⊢
  have c0 := HK0.out.cell 0
  have c1 := HK0.out.cell 1
  have c2 := HK0.out.cell 2
  have c3 := HK0.out.cell 3
  simp at c0 c1 c2 c3
  go_wp2_with fail
  (with_reducible refine (HFG.out w0 HB0.out).mono ?_)
  rintro e w1 ⟨⟨bb, rfl⟩, hb1⟩
  have HB1 := Lib.hid (HB0.out.trans (hb1.mono HB0.out.size))
  have HK1 := Lib.hid (HK0.out.below hb1 HK0.out.lt)
  clear hb1 c0 c1 c2 c3
  cases bb with
  | true =>
    go_wp2_with fail
    refine (lives14_any w1).mono ?_
    rintro e w2 ⟨rfl, hb2⟩
    have HE := Lib.hid (HB1.out.trans (hb2.mono HB1.out.size))
    clear hb2
    go_wp2_with fail
    go_ret
    exact ⟨rfl, HE.out⟩
  | false =>
    go_wp2_with fail
    (with_reducible refine (HFL.out w1 HB1.out).mono ?_)
    rintro e w2 ⟨⟨lb, rfl, hlb⟩, hb2⟩
    have HB2 := Lib.hid (HB1.out.trans (hb2.mono HB1.out.size))
    have HK2 := Lib.hid (HK1.out.below hb2 HK1.out.lt)
    clear hb2
    by_cases hgo : lb = true ∧ xl ≤ 80 ∧ 0 < xl
    · obtain ⟨rfl, hx80, hx0⟩ := hgo
      have hx80' : ¬ (80 : Int) < xl := by omega
      have hx0' : ((xl : Int) == 0) = false := by simp; omega
      have hx01 : (0 : Int) < xl := by omega
      have hl200 := (hlb rfl).1
      clear hlb
      have c0 := HK2.out.cell 0
      have c1 := HK2.out.cell 1
      have c2 := HK2.out.cell 2
      have c3 := HK2.out.cell 3
      simp at c0 c1 c2 c3
      obtain ⟨p, xb, xo, hp0, hp1, hp2, rfl, hxbl, hxc⟩ := HX.out.at_ (k := 0) hx0
      obtain ⟨N, hN⟩ : ∃ N : Nat, 4 + p % 13 = (N : Int) := ⟨(4 + p % 13).toNat, by omega⟩
      have h4 : 4 ≤ N := by omega
      have h16 : N ≤ 16 := by omega
      rw [Nat.add_zero] at hxc
      have dx := (HB2.out.cell (p := ⟨xb, xo, none⟩) hxbl).trans hxc
      have hb0 : 0 ≤ p % 13 := by omega
      have hb13 : p % 13 < 13 := by omega
      clear hp0
      go_wp2_with fail
      (with_reducible refine (HNR.out N h4 h16 w2 HB2.out).mono ?_)
      rintro e w3 hnr
      obtain ⟨rg, tag, P, rfl, hst⟩ := LSt.start (fun τ => (tab N (ownX X 5 S N τ)).map (Rw.plain N)) HB2.out hnr (onX X 5) (ownX X 5 S N)
      have HST := Lib.hid hst
      clear hst hnr c0 c1 c2 c3 hN hb0 hb13 HNR HFG HFL hxc dx
      have hm : madeOk (.int .i64 (N : Int)) (.int .i64 (N : Int)) = true := by simp [madeOk]; omega
      go_wp2_with fail
      go_loopw [9, 10] (fun s9 s10 wr => ∃ (t : Nat) (tag : Nat → Nat) (P : RgP) (xs : List Value) (a : Option Addr) (cap : Nat), t ≤ 60 ∧ s10 = .int .i64 t ∧ s9 = .slice a t cap ∧ LSt (fun τ => (tab N (ownX X 5 S N τ)).map (Rw.plain N)) t w rg (.slice aa an ac) (rgT N F (onX X 5) (ownX X 5 S N) t) tag P (.slice a t cap) xs wr) (fun _ t _ => 60 - (intOf t).toNat)
      case atStart => exact ⟨0, tag, P, [], none, 0, by omega, rfl, rfl, HST.out⟩
      case round =>
        clear HST
        obtain ⟨t, tag, P, xs, a, cap, ht, rfl, rfl, hst⟩ := hrel
        have HST := Lib.hid hst
        clear hst
        by_cases hlt : t < 2 * N + 8
        · have hlt1 : (t : Int) < 2 * (N : Int) + 8 := by omega
          obtain ⟨W, rfl⟩ : ∃ W, W = wr := ⟨_, rfl⟩
          have hWw : w.heap.size ≤ W.heap.size := HST.out.bel.size
          have HOI := Lib.hid ((OwnI.start W (· < w.heap.size) (fun b hb => Nat.lt_of_lt_of_le hb hWw) (ownX X 5 S N t) N).other ((Chg.refl (· = W.heap.size + 1) _).alloc (.cells (zrep [Value.bool false] N).toArray 4)) (by omega) (by omega) (by omega))
          have hkb : Blk ((W.alloc (.cells (zrep rowZ N).toArray 54)).alloc (.cells (zrep [Value.bool false] N).toArray 4)) (W.heap.size + 1) 4 (onL N fun j => decide (j < 0) && onX X 5 t j).toArray := by
            have h1 := Blk.new (W.alloc (.cells (zrep rowZ N).toArray 54)) 4 (zrep [Value.bool false] N).toArray
            rw [show (W.alloc (.cells (zrep rowZ N).toArray 54)).heap.size = W.heap.size + 1 from by simp, zrep_onL] at h1
            rw [show (onL N fun j => decide (j < 0) && onX X 5 t j) = onL N fun _ => false from by simp]
            rw [zrep_onL]
            exact h1
          have HKB := Lib.hid hkb
          clear hkb
          go_upto_region 13 with fail
          generalize ((W.alloc (.cells (zrep rowZ N).toArray 54)).alloc (.cells (zrep [Value.bool false] N).toArray 4)) = w5 at HOI HKB ⊢
          obtain ⟨tn, htn⟩ : ∃ tn, tn = t * N := ⟨_, rfl⟩
          have e1 : (t : Int) * (N : Int) = (tn : Int) := by rw [htn]; push_cast; rfl
          have htnl : tn ≤ 1000 := by rw [htn]; exact Nat.le_trans (Nat.mul_le_mul (by omega : t ≤ 40) h16) (by omega)
          have HTN := Lib.hid htn
          have wr1 : IntKind.i64.wrap (tn : Int) = tn := IntWalk.i64_in _ (by omega)
          clear htn
          obtain ⟨j, hj⟩ : ∃ j, t / 5 % xl = j := ⟨_, rfl⟩
          have hjl : j < xl := by rw [← hj]; exact Nat.mod_lt _ hx0
          obtain ⟨x, xb', xo', hxv, hx1, hx2, hxe, hxbl', hxc'⟩ := HX.out.at_ hjl
          cases hxe
          obtain ⟨t5, ht5⟩ : ∃ t5, t5 = t / 5 := ⟨_, rfl⟩
          have ht5l : t5 ≤ 20 := by omega
          have e2 : (t : Int).tdiv 5 = (t5 : Int) := by rw [ht5, Int.tdiv_eq_ediv_of_nonneg (by omega)]; norm_cast
          have e3 : (t : Int) / 5 = (t5 : Int) := by rw [ht5]; norm_cast
          have e4 : (t5 : Int).tmod xl = (j : Int) := by rw [← hj, ← ht5, Int.tmod_eq_emod_of_nonneg (by omega)]; norm_cast
          have e5 : (t5 : Int) % xl = (j : Int) := by rw [← hj, ← ht5]; norm_cast
          have wr5 : IntKind.i64.wrap (t5 : Int) = t5 := IntWalk.i64_in _ (by omega)
          have e6 : ¬ (xl : Int) = 0 := by omega
          have e7 : (j : Int) < xl := by omega
          have e8 : (0 : Int) ≤ j := by omega
          have hxon : ∀ k, onX X 5 t k = onB x k := fun k => by
            unfold onX
            rw [HX.out.1, hj, List.getD_eq_getElem?_getD, hxv]; rfl
          have HXON := Lib.hid hxon
          have HXC := Lib.hid (And.intro hxbl' hxc')
          clear hxon hxv hxc' hj ht5
          go_upto_block 2 with fail
          go_cut [13] from 59 to 101 (fun s13 wx => ∃ wc : World, wc = wx ∧ OwnDone w W (ownX X 5 S N t) N wc ∧ Blk wc (W.heap.size + 1) 4 (onL N fun j => onX X 5 t j).toArray)
          case first =>
            go_wp2_with fail
            go_loopw [13] (fun s13 wq => ∃ k : Nat, k ≤ N ∧ s13 = .int .i64 k ∧ OwnI W (· < w.heap.size) (ownX X 5 S N t) N k wq ∧ Blk wq (W.heap.size + 1) 4 (onL N fun j => decide (j < k) && onX X 5 t j).toArray) (fun k _ => N - (intOf k).toNat)
            case atStart => exact ⟨0, by omega, rfl, HOI.out, HKB.out⟩
            case round =>
              obtain ⟨k, hk, rfl, hoi, hkb⟩ := hrel
              by_cases hkN : k < N
              · have hkN1 : (k : Int) < N := by omega
                have hk0 : (0 : Int) ≤ k := by omega
                have dx := (hoi.bel.cell (p := ⟨xb, xo + j, none⟩) (Nat.lt_of_lt_of_le HXC.out.1 hWw)).trans ((HST.out.bel.cell (p := ⟨xb, xo + j, none⟩) HXC.out.1).trans HXC.out.2)
                have don : wr.cell? ⟨W.heap.size + 1, k, none⟩ = some (.bool (decide (k < k) && onX X 5 t k)) := by rw [hkb.cell]; simp only [List.getElem?_toArray]; exact onL_at hkN
                have zon := hkb.frozen k
                have HOI2 := Lib.hid hoi
                have HKB2 := Lib.hid hkb
                clear hoi hkb
                go_upto_region 17 with fail
                obtain ⟨q, hq⟩ : ∃ q, q = onX X 5 t k := ⟨_, rfl⟩
                have e9 : (bits BinOp.and IntKind.u16 (x / 2 ^ k) 1 == 0) = q := by rw [hq, HXON.out k]; rfl
                rw [e9]
                have hc1 : Chg (· = W.heap.size + 1) wr (wr.setCell ⟨W.heap.size + 1, k, none⟩ (.bool q)) := (Chg.refl _ _).set_at _ _
                have HOI3 := Lib.hid (HOI2.out.other hc1 (by omega) (by omega) (by omega))
                have hb2 := HKB2.out.set_ k (.bool q)
                have hset : (onL N fun j => decide (j < k) && onX X 5 t j).set k (.bool q) = onL N fun j => decide (j < k + 1) && onX X 5 t j := by
                  have := onL_set (N := N) (on := fun j => decide (j < k) && onX X 5 t j) (on' := fun j => decide (j < k + 1) && onX X 5 t j) (i := k) (fun j _ hne => by
                    have : (j < k + 1) = (j < k) := by simp; omega
                    simp only [this])
                  simpa [hq] using this
                rw [List.setIfInBounds_toArray, hset] at hb2
                have HKB3 := Lib.hid hb2
                generalize wr.setCell ⟨W.heap.size + 1, k, none⟩ (.bool q) = w6 at hc1 HOI3 HKB3 ⊢
                have don2 : w6.cell? ⟨W.heap.size + 1, k, none⟩ = some (.bool q) := by
                  rw [HKB3.out.cell]; simp only [List.getElem?_toArray]
                  rw [onL_at hkN]; simp [hq]
                have HQ := Lib.hid hq
                clear hq e9 hset hb2 hc1 don zon dx
                by_cases hdo : q = true ∧ 0 < sl
                · obtain ⟨rfl, hsl⟩ := hdo
                  obtain ⟨j2, hj2⟩ : ∃ j2, (tn + k) % sl = j2 := ⟨_, rfl⟩
                  have hjl2 : j2 < sl := by rw [← hj2]; exact Nat.mod_lt _ (by omega)
                  obtain ⟨b, off, x', m, cp, r, rfl, hSb, hbw, hv, hok, hrl, hrc1, hr1, hr2, hr3, hr4, hr5, hr6, hr7⟩ := HS.out.at_ j2 hjl2
                  have hbq := HOI3.out.bel
                  have hd := row_below hbq (p := ⟨b, off + j2 * 57, none⟩) (by show b < _; omega) 57
                  have hd0 := row_below HST.out.bel (p := ⟨b, off + j2 * 57, none⟩) hbw 57
                  have hrow : RowR (· < w.heap.size) w6 r (.slice x' m cp) := ((show RowR (· < w.heap.size) w r (.slice x' m cp) from ⟨x', m, cp, rfl, hr5, hr6, hr7⟩).keep HST.out.bel.size fun b hb _ => HST.out.bel.block b hb).keep hbq.size fun b hb _ => hbq.block b (Nat.lt_of_lt_of_le hb hWw)
                  have hrs : ownX X 5 S N t k = r := by
                    unfold ownX
                    rw [← HQ.out, if_pos rfl]
                    exact ownS_at (j := j2) (by rw [← HTN.out, HS.out.1]; exact hj2) hv
                  obtain ⟨rv, hrv⟩ : ∃ rv, rv = r.vals (.slice x' m cp) := ⟨_, rfl⟩
                  have d1 := hd.1.trans (hd0.1.trans hr1)
                  have d2 : rowOf w6 ⟨b, off + j2 * 57, none⟩ 57 = rv := by rw [hrv]; exact hd.2.trans (hd0.2.trans hr2)
                  obtain ⟨cput, hstep⟩ := HOI3.out.step hkN (by rw [hrs]; exact hok) (tv := .slice x' m cp) (by rw [hrs]; exact hrow)
                  rw [hrs, ← hrv] at hstep
                  have hrvl : rv.length = 57 := by rw [hrv]; exact Rw.len hok _
                  have hrvc : rv.all cell1 = true := by rw [hrv]; exact hrow.cell1 hok
                  have HNX := Lib.hid (And.intro hstep ((putRow_other w6 ⟨W.heap.size, k * 57, none⟩ rv (W.heap.size + 1) (by simp)).trans HKB3.out))
                  have wr2 : IntKind.i64.wrap ((tn : Int) + k) = (tn : Int) + k := IntWalk.i64_in _ (by omega)
                  have f1 : ((tn : Int) + k).tmod sl = (j2 : Int) := by rw [← hj2, Int.tmod_eq_emod_of_nonneg (by omega)]; norm_cast
                  have f2 : ((tn : Int) + k) % sl = (j2 : Int) := by rw [← hj2]; norm_cast
                  have f3 : ¬ (sl : Int) = 0 := by omega
                  have f4 : (0 : Int) < sl := by omega
                  have f5 : (j2 : Int) < sl := by omega
                  have f6 : (0 : Int) ≤ j2 := by omega
                  clear hd hd0 hr1 hr2 hr3 hr4 hr5 hr6 hr7 hrow hrs hv hok hrl hrc1 hrv hstep hbq hj2
                  go_wp2_with fail
                  exact ⟨⟨k + 1, by omega, by go_num, HNX.out.1, HNX.out.2⟩, by simp [intOf]; omega⟩
                · have hz : ownX X 5 S N t k = rw0 := by
                    unfold ownX
                    split
                    · rename_i h
                      exact ownS_nil (by rw [HS.out.1]; rw [← HQ.out] at h; have : ¬ 0 < sl := fun h2 => hdo ⟨h, h2⟩; omega) N t k
                    · rfl
                  have HNX := Lib.hid (And.intro (HOI3.out.skip hz) HKB3.out)
                  clear hz
                  cases q with
                  | false =>
                    clear hdo
                    go_wp2_with fail
                    exact ⟨⟨k + 1, by omega, by go_num, HNX.out.1, HNX.out.2⟩, by simp [intOf]; omega⟩
                  | true =>
                    obtain rfl : sl = 0 := by
                      have : ¬ 0 < sl := fun h2 => hdo ⟨rfl, h2⟩
                      omega
                    clear hdo
                    go_wp2_with fail
                    exact ⟨⟨k + 1, by omega, by go_num, HNX.out.1, HNX.out.2⟩, by simp [intOf]; omega⟩
              · have hkN1 : ¬ (k : Int) < N := by omega
                have hkb' : (onL N fun j => decide (j < k) && onX X 5 t j) = onL N fun j => onX X 5 t j := onL_congr fun j hj => by
                  have : j < k := by omega
                  simp [this]
                rw [hkb'] at hkb
                have HD := Lib.hid (And.intro (hoi.done (w := w) fun s' h1 h2 => by omega) hkb)
                clear hoi hkb hkb'
                go_wp2_with fail
                go_meet
                exact ⟨_, rfl, HD.out.1, HD.out.2⟩
          case rest =>
            obtain ⟨wx, rfl, hod, hkb⟩ := hcut
            have HOD := Lib.hid hod
            have HKB2 := Lib.hid hkb
            clear hod hkb HOI HKB e1 e2 e3 e4 e5 e6 e7 e8 wr1 wr5 htnl ht5l HTN HXON HXC hx1 hx2
            have HWX := Lib.hid (HST.out.below HOD.out.1)
            have HPL := Lib.hid (plain14_tab (cap := N) h16 HOD.out.2 (Nat.le_refl _) (by simp only [maxLen]; omega))
            have HVO : Hid (∀ b, (Value.slice a t cap).ownBlock = some b → b < W.heap.size) := Lib.hid fun b hb => (HST.out.was.own.lt b hb).2
            obtain ⟨ob, hobE⟩ : ∃ ob, ob = W.heap.size + 1 := ⟨_, rfl⟩
            have HKX : Hid (Blk wx ob 4 (onL N fun j => onX X 5 t j).toArray) := Lib.hid (by rw [hobE]; exact HKB2.out)
            have hobW : ob < wx.heap.size := HKX.out.lt
            have hobW2 : W.heap.size < ob := by omega
            have HOT : Hid (tag ob = 98) := Lib.hid (HST.out.r.tg ob (by omega))
            have HOBE := Lib.hid hobE
            rw [← hobE]
            clear hobE HKB2
            have hWx : W.heap.size ≤ wx.heap.size := HOD.out.1.size
            go_wp2_with fail
            (with_reducible refine HPL.out.mono ?_)
            rintro e w6 ⟨pa, pcap, rfl, hp1, hp2, hp3, hpb⟩
            have HP6 := Lib.hid (And.intro hp1 (And.intro hp2 (And.intro hp3 hpb)))
            have hs6 := hpb.size
            have HW6 : Hid (w6.ownsRow w.heap.size 32 1 (.slice a t cap) t xs) := Lib.hid (own_block HWX.out.was.own fun b hb => hpb.block b (HWX.out.was.own.lt b hb).2)
            have HR6 : Hid (RdRs (fun b => b = W.heap.size ∨ b < w.heap.size) w6 (some ⟨W.heap.size, 0, none⟩) N (tab N (ownX X 5 S N t))) := Lib.hid (HOD.out.2.keep hpb.size fun b _ hl => hpb.block b hl)
            have HK6 := Lib.hid (HKX.out.below hpb HKX.out.lt)
            clear hp1 hp2 hp3 hpb HPL
            go_wp2_with (at_builtin; refine wpList_lies app_lists (by rfl) (.tmp 102) (.tmp 106) (by rfl) w.heap.size _ _ _ (by rfl) (HW6.out.alloc _) ⟨w6.heap.size, 0, none⟩ 1 1 [.slice pa N pcap] (by rfl) (by simp) (hasRow_new w6 _ _ 0 1 (by simp)) (rowOf_new w6 _ _ 0 1 (by simp)) (by rfl) (by omega) (by omega) (by simp; omega) ?_; intro gg cp w7 hown1 hgrow hlie; have H7 := Lib.hid (HWX.out.push HP6.out.2.2.2 HP6.out.1 HP6.out.2.1 HP6.out.2.2.1 rfl hgrow hown1 hlie); have H7b := Lib.hid hgrow; clear hown1 hgrow hlie)
            have hs7 : w6.heap.size < w7.heap.size := by have := H7b.out.size; simp at this; omega
            have HR7 : Hid (RdRs (fun b => b = W.heap.size ∨ b < w.heap.size) w7 (some ⟨W.heap.size, 0, none⟩) N (tab N (ownX X 5 S N t))) := Lib.hid ((HR6.out.keep (by omega) fun b hb hl => (H7b.out.block b (by simp; omega) (fun e => by
              have h1 := HVO.out b e.symm
              rcases hb with rfl | hb
              · omega
              · have := (HST.out.was.own.lt b e.symm).1; omega)).trans (Below.heap_alloc _ _ _ hl)))
            have HK7 : Hid (Blk w7 ob 4 (onL N fun j => onX X 5 t j).toArray) := Lib.hid ((H7b.out.block ob (by simp; omega) (fun e => own_not HW6.out HK6.out (by decide) e.symm)).trans (HK6.out.alloc _))
            have HT7 : Hid (tagR tag wx.heap.size w6.heap.size 0 ob = 98 ∧ ∀ b, b < ob + 1 → tagR tag wx.heap.size w6.heap.size 0 b = tag b) := Lib.hid ⟨by rw [tagR_lo (by omega)]; exact HOT.out, fun b hb => tagR_lo (by omega)⟩
            obtain ⟨tag7, htag7⟩ : ∃ tag7, tag7 = tagR tag wx.heap.size w6.heap.size 0 := ⟨_, rfl⟩
            rw [← htag7] at H7 HT7
            have HNN : Hid ((rgT N F (onX X 5) (ownX X 5 S N) t).N = N) := Lib.hid (rgT_N N F (onX X 5) (ownX X 5 S N) t).1
            have hs7W : W.heap.size < w7.heap.size := by omega
            have HST98 : Hid (tag W.heap.size = 98) := Lib.hid (HST.out.r.tg _ (Nat.le_refl _))
            have HSo : Hid (∀ b, (b = W.heap.size ∨ b < w.heap.size) → ¬ Rgs tag7 N b) := Lib.hid fun b hb hr => by
              have h1 := HT7.out.2 b (by omega)
              have h2 := hr.1
              have h3 := hr.2
              rw [h1] at h2 h3
              rcases hb with rfl | hb
              · rw [HST98.out] at h3; omega
              · rw [HST.out.lo b hb] at h2; omega
            have HHC := Lib.hid (hear_tick N F (onX X 5) (ownX X 5 S N) (oc := N) H7.out.r (by omega : t ≤ 100000) (fun i hi => by rw [HK7.out.cell]; simp only [List.getElem?_toArray]; exact onL_at hi) HK7.out.lt (fun h => by have := h.2; rw [HT7.out.1] at this; omega))
            clear htag7
            (with_reducible refine HHC.out.mono ?_)
            rintro e w8 hh
            obtain ⟨tag8, P8, hv, rfl, hl8, hheld, htg8, hc8⟩ := H7.out.hear hh
            rw [HNN.out] at hheld hc8
            have H8 := Lib.hid hl8
            have HH8 := Lib.hid hheld
            have HT8 := Lib.hid (And.intro htg8 hc8)
            have hs8 := hc8.size
            obtain ⟨hg, hcap, rfl, -, hgl, hgc1, hgc2, -⟩ := hheld
            have HR8 : Hid (RdRs (fun b => b = W.heap.size ∨ b < w.heap.size) w8 (some ⟨W.heap.size, 0, none⟩) N (tab N (ownX X 5 S N t))) := Lib.hid (HR7.out.keep hc8.size fun b hb hl => hc8.block b hl (HSo.out b hb))
            have HK8 := Lib.hid (HK7.out.chg hc8 (fun h => by have := h.2; rw [HT7.out.1] at this; omega))
            have HSC := Lib.hid (say_tick N F (onX X 5) (ownX X 5 S N) (oc := N) H8.out.r (by omega : t ≤ 100000) HR8.out (fun b hbl hb hr => HSo.out b hb (by unfold Rgs at hr ⊢; rwa [HT8.out.1 b (by omega)] at hr)) (Nat.le_refl _))
            clear hh hl8 htg8 hc8 HHC
            go_wp2_with fail
            (with_reducible refine HSC.out.mono ?_)
            rintro e w9 hs
            obtain ⟨rfl, tag9, P9, hl9, htg9, hc9⟩ := H8.out.say hs
            have HNN8 : ((rgT N F (onX X 5) (ownX X 5 S N) t).hear ((onX X 5 t))).N = N := HNN.out
            rw [HNN8] at hc9
            have H9 : Hid (LSt (fun τ => (tab N (ownX X 5 S N τ)).map (Rw.plain N)) (t + 1) w rg (.slice aa an ac) (rgT N F (onX X 5) (ownX X 5 S N) (t + 1)) tag9 P9 (.slice (some ⟨gg, 0, none⟩) (t + 1) cp) _ w9) := Lib.hid hl9
            have HH9 := Lib.hid (HH8.out.keep hc9.size fun b hb hl => hc9.block b hl fun hr => by have := hr.2; rw [hb.2] at this; omega)
            have HT9 : Hid (tag9 ob = 98) := Lib.hid (by rw [htg9 ob (by omega), HT8.out.1 ob (by omega)]; exact HT7.out.1)
            have HK9 := Lib.hid (HK8.out.chg hc9 (fun h => by have := h.2; rw [HT8.out.1 ob (by omega), HT7.out.1] at this; omega))
            have hs9 := hc9.size
            clear hs hl9 htg9 hc9 HSC HNN8
            clear H7 H7b HR7 HK7 HT7 HSo H8 HH8 HT8 HR8 HK8 HW6 HR6 HK6 HP6 HKX HWX HVO HOD
            go_wp2_with fail
            have HNF := Lib.hid (rgT_N N F (onX X 5) (ownX X 5 S N) (t + 1))
            go_loopw [15] (fun s15 wq => ∃ i : Nat, i ≤ N ∧ s15 = .int .i64 i ∧ Below w9.heap.size w9 wq) (fun i _ => N - (intOf i).toNat)
            case atStart => exact ⟨0, by omega, rfl, Below.refl _ _⟩
            case round =>
              obtain ⟨i, hi, rfl, hbq⟩ := hrel
              have HBQ := Lib.hid hbq
              clear hbq
              by_cases hiN : i < N
              · have hiN1 : (i : Int) < N := by omega
                have hi0 : (0 : Int) ≤ i := by omega
                have HBI := Lib.hid (bad_node H9.out.r HBQ.out HNF.out.1 HNF.out.2 hiN)
                obtain ⟨qi, hqi⟩ : ∃ qi, qi = (!F.link && decide (F.at_ % N = i)) := ⟨_, rfl⟩
                rw [← hqi] at HBI
                have HQI := Lib.hid hqi
                clear hqi
                go_wp2_with fail
                (with_reducible refine HBI.out.mono ?_)
                rintro e wb ⟨rfl, hbb⟩
                have HBB := Lib.hid (HBQ.out.trans (hbb.mono HBQ.out.size))
                clear hbb HBI
                cases qi with
                | true =>
                  go_wp2_with fail
                  exact ⟨⟨i + 1, by omega, by go_num, HBB.out⟩, by simp [intOf]; omega⟩
                | false =>
                  obtain ⟨qo, hqo⟩ : ∃ qo, qo = onX X 5 t i := ⟨_, rfl⟩
                  have don : wb.cell? ⟨ob, i, none⟩ = some (.bool qo) := by
                    rw [(HBB.out.cell (p := ⟨ob, i, none⟩) HK9.out.lt), HK9.out.cell]
                    simp only [List.getElem?_toArray]
                    rw [onL_at hiN, hqo]
                  have HQO := Lib.hid hqo
                  clear hqo
                  cases qo with
                  | false =>
                    go_wp2_with fail
                    exact ⟨⟨i + 1, by omega, by go_num, HBB.out⟩, by simp [intOf]; omega⟩
                  | true =>
                    obtain ⟨g', c', he, -, hgl9, -, -, hcell⟩ := HH9.out
                    cases he
                    obtain ⟨hu, hgi, ha, hnn, hcc, rfl, hrd, hmc, hcm⟩ := hcell i hiN
                    have hlen := held_all N F (onX X 5) (ownX X 5 S N) t i HQO.out.symm hiN
                    have hnN : hnn = N := by rw [← hrd.1]; exact (congrArg List.length hlen).trans (tab_len _ _)
                    subst hnN
                    have HRD := Lib.hid hrd
                    have HFT := Lib.hid (fits_any rg hnn hg hcap hnn hcc ha i wb (by have := (H9.out.r.below HBB.out).cells.1; rwa [HNF.out.1] at this) ((HBB.out.cell (p := ⟨hg, i, none⟩) hgl9).trans hgi) hiN hmc)
                    rw [show decide (hnn = hnn) = true from by simp] at HFT
                    clear hcell hlen hrd
                    obtain ⟨N, rfl⟩ : ∃ N, N = hnn := ⟨_, rfl⟩
                    go_wp2_with fail
                    (with_reducible refine HFT.out.mono ?_)
                    rintro e wc ⟨rfl, hbc⟩
                    have HBC := Lib.hid (HBB.out.trans (hbc.mono HBB.out.size))
                    clear hbc HFT don
                    go_wp2_with fail
                    go_loopw [16] (fun s16 wq => ∃ s : Nat, s ≤ N ∧ s16 = .int .i64 s ∧ Below w9.heap.size w9 wq) (fun s _ => N - (intOf s).toNat)
                    case atStart => exact ⟨0, by omega, rfl, HBC.out⟩
                    case round =>
                      obtain ⟨s, hs, rfl, hbr⟩ := hrel
                      have HBR := Lib.hid hbr
                      clear hbr
                      by_cases hsN : s < N
                      · have hsN1 : (s : Int) < N := by omega
                        have hs0 : (0 : Int) ≤ s := by omega
                        obtain ⟨r, hr⟩ : ∃ r, (((rgT N F (onX X 5) (ownX X 5 S N) t).hear (onX X 5 t)).held i)[s]? = some r := ⟨_, List.getElem?_eq_getElem (by rw [HRD.out.1]; exact hsN)⟩
                        have hkey : F.at_ % N = s ∧ F.link = false ∨ (r.is = true → N ≤ t ∧ r = (ownX X 5 S N (t - N) s).plain N) := by
                          by_cases hbs : F.at_ % N = s ∧ F.link = false
                          · exact .inl hbs
                          · right
                            obtain ⟨r', hr', -, h3⟩ := held_truth N F (onX X 5) (ownX X 5 S N) (t := t) h4 hsN hiN (fun e => by cases hl : F.link; exact absurd ⟨e, hl⟩ hbs; rfl) (fun e => by have := HQI.out; rw [e] at this; simpa using this) (fun t' s' => ownX_ok HS.out.2.1 N t' s') HQO.out.symm
                            have hr2 : (((rgT N F (onX X 5) (ownX X 5 S N) t).hear (onX X 5 t)).held i)[s]? = some r' := hr'
                            rw [hr] at hr2
                            cases hr2
                            exact h3
                        have HKEY := Lib.hid hkey
                        obtain ⟨hb, hoff, hx, hm', hc2, rfl, hbS, hbl9, hh1, hh2, hh3, hh4, hh5⟩ := HRD.out.2.2 s r hr
                        have hrok := HRD.out.2.1 r (List.mem_of_getElem? hr)
                        obtain ⟨hv, hhv⟩ : ∃ hv, hv = r.vals (.slice hx hm' hc2) := ⟨_, rfl⟩
                        rw [← hhv] at hh2
                        have hhvl : hv.length = 57 := by rw [hhv]; exact Rw.len hrok _
                        have HHV := Lib.hid hhv
                        have HHR : Hid (RowR (fun b => w7.heap.size ≤ b ∧ tag8 b = 98) w9 r (.slice hx hm' hc2)) := Lib.hid ⟨hx, hm', hc2, rfl, hh3, hh4, hh5⟩
                        have hhvc : hv.all cell1 = true := by rw [hhv]; exact HHR.out.cell1 hrok
                        have HROK := Lib.hid hrok
                        have z1 := (HBR.out.cell (p := ⟨hg, i, none⟩) hgl9).trans hgi
                        have z2 := row_below HBR.out (p := ⟨hb, hoff + s * 57, none⟩) hbl9 57
                        have z3 := z2.1.trans hh1
                        have z4 := z2.2.trans hh2
                        clear z2 hhv hr hh1 hh2 hh3 hrok hbS hkey
                        go_upto_region 32 with fail
                        have HBW := Lib.hid (ba1 HBR.out (.cells hv.toArray 54))
                        have HKW := Lib.hid (Blk.new wr 54 hv.toArray)
                        generalize wr.alloc (.cells hv.toArray 54) = wx at HBW HKW ⊢
                        clear z1 z3 z4
                        generalize wr.heap.size = wn at HKW ⊢
                        have HBS := Lib.hid (bad_node H9.out.r HBW.out HNF.out.1 HNF.out.2 hsN)
                        obtain ⟨qs, hqs⟩ : ∃ qs, qs = (!F.link && decide (F.at_ % N = s)) := ⟨_, rfl⟩
                        rw [← hqs] at HBS
                        have HQS := Lib.hid hqs
                        clear hqs
                        go_wp2_with fail
                        (with_reducible refine HBS.out.mono ?_)
                        rintro e wd ⟨rfl, hbd⟩
                        have HBD := Lib.hid (HBW.out.trans (hbd.mono HBW.out.size))
                        have HKD := Lib.hid (HKW.out.below hbd HKW.out.lt)
                        clear hbd HBS
                        cases qs with
                        | true =>
                          go_wp2_with fail
                          exact ⟨⟨s + 1, by omega, by go_num, HBD.out⟩, by simp [intOf]; omega⟩
                        | false =>
                          obtain ⟨ri, hri⟩ : ∃ ri, ri = r.is := ⟨_, rfl⟩
                          have dis : wd.cell? ⟨wn, 0, none⟩ = some (.bool ri) := by rw [HKD.out.cell, HHV.out, hri]; rfl
                          have HRI := Lib.hid hri
                          clear hri
                          cases ri with
                          | false =>
                            go_wp2_with fail
                            exact ⟨⟨s + 1, by omega, by go_num, HBD.out⟩, by simp [intOf]; omega⟩
                          | true =>
                            have hfin : N ≤ t ∧ r = (ownX X 5 S N (t - N) s).plain N := by
                              rcases HKEY.out with ⟨h1, h2⟩ | h
                              · have := HQS.out; rw [h1, h2] at this; simp at this
                              · exact h HRI.out.symm
                            obtain ⟨htN, hrt⟩ := hfin
                            have htN1 : (N : Int) ≤ t := by omega
                            have htN2 : ¬ (t : Int) < N := by omega
                            have htN3 : decide (t < N) = false := by simp; omega
                            have htN4 : decide ((t : Int) < N) = false := by simp; omega
                            obtain ⟨d, hd⟩ : ∃ d, t = d + N := ⟨t - N, by omega⟩
                            have hdt : t - N = d := by omega
                            rw [hdt] at hrt
                            have e1 : (t : Int) - (N : Int) = (d : Int) := by omega
                            have wr1 : IntKind.i64.wrap (d : Int) = d := IntWalk.i64_in _ (by omega)
                            have d1 : (d : Int) < (t : Int) + 1 := by omega
                            have d0 : (0 : Int) ≤ d := by omega
                            obtain ⟨g2, c2, u2, he2, hgc, hgm, hg2l, hg2, wa, wn2, wc2, rfl, hwrd, hwm1, hwm2⟩ := H9.out.was.at_ (j := d) (by omega)
                            cases he2
                            obtain ⟨b2, off2, x2, m2, k2, rfl, hb2S, hb2l, hw1, hw2, hw3, hw4, hw5⟩ := hwrd.2.2 s _ (plain_at hsN)
                            have hwn : wn2 = N := by rw [← hwrd.1]; simp [tab_len]
                            subst hwn
                            have hpok := hwrd.2.1 _ (List.mem_of_getElem? (plain_at (N := wn2) (f := ownX X 5 S wn2 d) hsN))
                            obtain ⟨wv, hwv⟩ : ∃ wv, wv = ((ownX X 5 S wn2 d s).plain wn2).vals (.slice x2 m2 k2) := ⟨_, rfl⟩
                            rw [← hwv] at hw2
                            have hwvl : wv.length = 57 := by rw [hwv]; exact Rw.len hpok _
                            have HWV := Lib.hid hwv
                            have HWR0 : Hid (RowR (Sn tag9 w9) w9 ((ownX X 5 S wn2 d s).plain wn2) (.slice x2 m2 k2)) := Lib.hid ⟨x2, m2, k2, rfl, hw3, hw4, hw5⟩
                            have HRK := Lib.hid (And.intro HROK.out (And.intro hpok hrt))
                            obtain ⟨N, rfl⟩ : ∃ N, N = wn2 := ⟨_, rfl⟩
                            have F33 : Hid (∀ w' : World, Below wd.heap.size wd w' → (hasRow w' ⟨wn, 0, none⟩ 57 = true ∧ rowOf w' ⟨wn, 0, none⟩ 57 = hv ∧ w'.cell? ⟨gg, d, none⟩ = some (.slice (some ⟨b2, off2, none⟩) N wc2) ∧ hasRow w' ⟨b2, off2 + s * 57, none⟩ 57 = true ∧ rowOf w' ⟨b2, off2 + s * 57, none⟩ 57 = wv)) := Lib.hid fun w' hbe => by
                              have hB := HBD.out.trans (hbe.mono HBD.out.size)
                              have g2 := row_below hB (p := ⟨b2, off2 + s * 57, none⟩) hb2l 57
                              obtain ⟨k1, k2, -⟩ := (HKD.out.below hbe HKD.out.lt).whole (n := 57) hhvl
                              exact ⟨k1, k2, (hB.cell (p := ⟨gg, d, none⟩) hg2l).trans hg2, g2.1.trans hw1, g2.2.trans hw2⟩
                            have HSM : Hid (∀ w' : World, Below wd.heap.size wd w' → Calls Try.prog 36 #[.agg hv.toArray, .agg wv.toArray] w' (Same14 true w')) := Lib.hid fun w' hbe => by
                              have hB := HBD.out.trans (hbe.mono HBD.out.size)
                              rw [HHV.out, HWV.out]
                              exact same14_any _ _ _ _ HRK.out.1 HRK.out.2.1 _ _ w' (HHR.out.keep hB.size fun b _ hl => hB.block b hl) (HWR0.out.keep hB.size fun b _ hl => hB.block b hl) HRK.out.2.2
                            clear hwrd hw1 hw2 hw3 hwv hpok hg2 hd hdt hrt
                            go_upto_region 33 with fail
                            clear dis
                            go_region_held3 (fun w' => (hasRow w' ⟨wn, 0, none⟩ 57 = true ∧ rowOf w' ⟨wn, 0, none⟩ 57 = hv ∧ w'.cell? ⟨gg, d, none⟩ = some (.slice (some ⟨b2, off2, none⟩) N wc2) ∧ hasRow w' ⟨b2, off2 + s * 57, none⟩ 57 = true ∧ rowOf w' ⟨b2, off2 + s * 57, none⟩ 57 = wv))
                              (with_reducible (first | exact F33.out _ (Below.refl _ _).drew | exact F33.out _ H38.out))
                              ((first | ((with_reducible refine (HSM.out _ (Below.refl _ _).drew).mono ?_); rintro e w38 ⟨rfl, hb38⟩; have H38 := Lib.hid ((Below.refl wd.heap.size wd).drew.trans hb38); clear hb38)))
                            go_wp2_with fail
                            exact ⟨⟨s + 1, by omega, by go_num, HBD.out.trans (H38.out.mono HBD.out.size)⟩, by simp [intOf]; omega⟩
                      · have hsN1 : ¬ (s : Int) < N := by omega
                        go_wp2_with fail
                        exact ⟨⟨i + 1, by omega, by go_num, HBR.out⟩, by simp [intOf]; omega⟩
              · have hiN1 : ¬ (i : Int) < N := by omega
                go_wp2_with fail
                exact ⟨⟨t + 1, tag9, P9, _, _, _, by omega, by go_num, rfl, H9.out.below HBQ.out⟩, by simp [intOf]; omega⟩
        · have hlt1 : ¬ (t : Int) < 2 * (N : Int) + 8 := by omega
          have hb9 := HST.out.bel
          have HB9 := Lib.hid hb9
          clear hb9
          go_wp2_with fail
          refine (lives14_any wr).mono ?_
          rintro e w9 ⟨rfl, hb9⟩
          have HE := Lib.hid (HB9.out.trans (hb9.mono HB9.out.size))
          clear hb9
          go_wp2_with fail
          go_ret
          exact ⟨rfl, HE.out⟩
    · clear hlb
      cases lb with
      | false =>
        clear hgo
        go_wp2_with fail
        refine (lives14_any w2).mono ?_
        rintro e w3 ⟨rfl, hb3⟩
        have HE := Lib.hid (HB2.out.trans (hb3.mono HB2.out.size))
        clear hb3
        go_wp2_with fail
        go_ret
        exact ⟨rfl, HE.out⟩
      | true =>
        by_cases h80 : xl ≤ 80
        · obtain rfl : xl = 0 := by
            have : ¬ 0 < xl := fun h => hgo ⟨rfl, h80, h⟩
            omega
          clear hgo h80
          go_wp2_with fail
          refine (lives14_any w2).mono ?_
          rintro e w3 ⟨rfl, hb3⟩
          have HE := Lib.hid (HB2.out.trans (hb3.mono HB2.out.size))
          clear hb3
          go_wp2_with fail
          go_ret
          exact ⟨rfl, HE.out⟩
        · have h81 : (80 : Int) < xl := by omega
          clear hgo h80
          go_wp2_with fail
          refine (lives14_any w2).mono ?_
          rintro e w3 ⟨rfl, hb3⟩
          have HE := Lib.hid (HB2.out.trans (hb3.mono HB2.out.size))
          clear hb3
          go_wp2_with fail
          go_ret
          exact ⟨rfl, HE.out⟩
end Go.Proofs.Ytbdklfcgcmdgaaa
