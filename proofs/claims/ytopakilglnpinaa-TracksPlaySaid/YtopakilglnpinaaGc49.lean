/-
  sennitlaw14.TracksPlay, walked.
-/
import Derived.Test.YtopakilglnpinaaGc48
import Derived.Test.YtopakilglnpinaaGc46
namespace Go.Proofs.Ytopakilglnpinaa
open Go.RowKit
set_option linter.unusedVariables false
set_option linter.unusedSimpArgs false

noncomputable def wd (t : Tk) (i : Nat) : List Rw := if i < 4 then t.w i else []
theorem wd_at (t : Tk) {i : Nat} (h : i < 4) : wd t i = t.w i := if_pos h
theorem chg_put (w : World) (q o : Nat) (l : List Value) : Chg (· = q) w (putRow w ⟨q, o, none⟩ l) := (Chg.refl (· = q) w).put (p := ⟨q, o, none⟩) (.inl rfl) l
set_option maxRecDepth 100000 in
set_option maxHeartbeats 16000000 in
theorem tplay_any (n me : Int) (x : Option Addr) (len cap : Nat) (l : List Tk) (w : World) (hrd : RdTk (· < w.heap.size) w x len l) (hm1 : len ≤ cap) (hm2 : cap ≤ maxLen) :
    Calls Try.prog 3 #[.int .i64 n, .int .i64 me, .slice x len cap] w fun e w' => e = .returned (.bool true) ∧ Below w.heap.size w w' := by
  have hll : l.length = len := hrd.1
  have HR := Lib.hid hrd
  have HC := Lib.hid (great14_any x len cap l w hrd hm1 hm2)
  clear hrd
  go_enter Try.func3, Try.ntmps3
  go_wp2_with fail
  (with_reducible refine HC.out.mono ?_)
  rintro e w1 ⟨⟨bb, rfl, hsm⟩, hb1⟩
  clear HC
  have HB1 := Lib.hid hb1
  cases bb with
  | true =>
    clear hsm hb1
    go_wp2_with fail
    refine (lives14_any w1).mono ?_
    rintro e w2 ⟨rfl, hb2⟩
    have HE := Lib.hid (HB1.out.trans (hb2.mono HB1.out.size))
    clear hb2
    go_wp2_with fail
    go_ret
    exact ⟨rfl, HE.out⟩
  | false =>
    have HSM := Lib.hid (hsm rfl)
    clear hsm hb1
    by_cases hv : 4 ≤ n ∧ n ≤ 16 ∧ 0 ≤ me ∧ me < n
    · obtain ⟨v1, v2, v3, v4⟩ := hv
      obtain ⟨n, rfl⟩ := Int.eq_ofNat_of_zero_le (show 0 ≤ n by omega)
      obtain ⟨me, rfl⟩ := Int.eq_ofNat_of_zero_le v3
      have HN := Lib.hid (new_ok n me (by omega) (by omega) (by omega) w1)
      have HN2 := Lib.hid (rnew_ok n me (by omega) (by omega) (by omega))
      go_wp2_with fail
      (with_reducible refine HN.out.mono ?_)
      rintro e w2 ⟨p, gp, rfl, hla, hb2⟩
      go_wp2_with fail
      (with_reducible refine (HN2.out w2).mono ?_)
      rintro e w3 ⟨lb, rfl, hlb, hrf, hb3⟩
      have HP : Hid (PlS w p gp lb (fun _ => False) (fun b => w1.heap.size ≤ b ∧ b < w2.heap.size) (fun _ => False) (fun _ => 0) (LaneM.new n me) (RfM.new n me) (.slice none 0 0) (.slice none 0 0) w3) := Lib.hid (by
        have h1 := HB1.out.size
        have hR : ∀ b, RfS (fun _ => False) lb (.slice none 0 0) (.slice none 0 0) b → b = lb := fun b hb => by
          rcases hb with hb | hb | hb | hb
          · exact hb
          · simp [Value.ownBlock] at hb
          · simp [Value.ownBlock] at hb
          · exact hb.elim
        have hz2 := hb2.size
        refine ⟨hla.below hb3, hrf, fun b hb hr => ?_, fun b hb => ?_, fun b hb => hb.elim, (HB1.out.trans (hb2.mono h1)).trans (hb3.mono (by omega))⟩
        · have := hR b hr; omega
        · rcases hb with hb | hb
          · omega
          · have := hR b hb; omega)
      have HLK : Hid (LkM (LaneM.new n me) (RfM.new n me)) := Lib.hid (LkM.new (by omega))
      clear HN HN2 hla hlb hrf hb2 hb3
      go_wp2_with fail
      go_loopw [11] (fun s11 wr => ∃ (k : Nat) (S D : Nat → Prop) (G : Nat → Nat) (L : LaneM) (M : RfM) (vo vc : Value), k ≤ len ∧ s11 = .int .i64 k ∧ PlS w p gp lb (fun _ => False) S D G L M vo vc wr ∧ LkM L M ∧ L.n = n ∧ L.me = me ∧ L.T = k) (fun i _ => len - (intOf i).toNat)
      case atStart => exact ⟨0, _, _, _, _, _, _, _, by omega, rfl, HP.out, HLK.out, rfl, rfl, rfl⟩
      case round =>
        clear HP HLK
        obtain ⟨k, S, D, G, L, M, vo, vc, hk, rfl, hP, hLK, hLn, hLme, hLT⟩ := hrel
        obtain ⟨wq, rfl⟩ : ∃ wq, wq = wr := ⟨_, rfl⟩
        have HP := Lib.hid hP
        have HLK := Lib.hid (And.intro hLK (And.intro hLn (And.intro hLme hLT)))
        clear hP hLK hLn hLme hLT
        have hk40 : len ≤ 40 := by rw [← hll]; exact HSM.out.1
        by_cases hlt : k < len
        · obtain ⟨t, ht⟩ : ∃ t, l[k]? = some t := ⟨_, List.getElem?_eq_getElem (by omega)⟩
          obtain ⟨b, off, a, ln, cp, tv, rfl, hb, hbl, hat⟩ := HR.out.2 k t ht
          have HSZ : Hid (t.small) := Lib.hid (HSM.out.2 t (List.mem_of_getElem? ht))
          have HAT : Hid (∀ w', Below w.heap.size w w' → TkAt (· < w.heap.size) w' b (off + k * 62) a ln cp tv t) := Lib.hid fun w' hB => hat.keep hB.size (hB.block b hbl) fun q _ hq => hB.block q hq
          clear hat ht
          have hlt' : (k : Int) < len := by omega
          have hk0 : (0 : Int) ≤ k := by omega
          have hat := HAT.out wq HP.out.bel
          have hins : hasRow wq ⟨b, off + k * 62, none⟩ 4 = true ∧ rowOf wq ⟨b, off + k * 62, none⟩ 4 = [.slice (a 0) (ln 0) (cp 0), .slice (a 1) (ln 1) (cp 1), .slice (a 2) (ln 2) (cp 2), .slice (a 3) (ln 3) (cp 3)] := by
            refine row_of_cells (w := wq) (p := ⟨b, off + k * 62, none⟩) (l := [.slice (a 0) (ln 0) (cp 0), .slice (a 1) (ln 1) (cp 1), .slice (a 2) (ln 2) (cp 2), .slice (a 3) (ln 3) (cp 3)]) (fun j v hj => ?_)
            rw [add_at]
            match j, hj with
            | 0, hj => cases hj; exact hat.c 0 (by omega)
            | 1, hj => cases hj; exact hat.c 1 (by omega)
            | 2, hj => cases hj; exact hat.c 2 (by omega)
            | 3, hj => cases hj; exact hat.c 3 (by omega)
          obtain ⟨g1, g2⟩ := hins
          clear hat
          have h4l : ([.slice (a 0) (ln 0) (cp 0), .slice (a 1) (ln 1) (cp 1), .slice (a 2) (ln 2) (cp 2), .slice (a 3) (ln 3) (cp 3)] : List Value).length = 4 := rfl
          have h4c : ([.slice (a 0) (ln 0) (cp 0), .slice (a 1) (ln 1) (cp 1), .slice (a 2) (ln 2) (cp 2), .slice (a 3) (ln 3) (cp 3)] : List Value).all cell1 = true := rfl
          obtain ⟨iv, hiv⟩ : ∃ iv : List Value, iv = [.slice (a 0) (ln 0) (cp 0), .slice (a 1) (ln 1) (cp 1), .slice (a 2) (ln 2) (cp 2), .slice (a 3) (ln 3) (cp 3)] := ⟨_, rfl⟩
          rw [← hiv] at g2 h4l h4c
          have HIV := Lib.hid hiv
          clear hiv
          go_upto_region 13 with fail
          have HQ : Hid (Blk (wq.alloc (.cells iv.toArray 36)) wq.heap.size 36 iv.toArray ∧ Below wq.heap.size wq (wq.alloc (.cells iv.toArray 36)) ∧ (wq.alloc (.cells iv.toArray 36)).heap.size = wq.heap.size + 1) := Lib.hid ⟨Blk.new _ _ _, (Below.refl _ _).alloc (Nat.le_refl _) _, by simp⟩
          generalize wq.alloc (.cells iv.toArray 36) = w4 at HQ ⊢
          obtain ⟨x12, hx12⟩ : ∃ x12, x12 = wq.heap.size := ⟨_, rfl⟩
          rw [← hx12] at HQ
          rw [← hx12]
          have HX := Lib.hid hx12
          clear hx12 g1 g2 h4l h4c
          have FB : Hid (∀ w', Below w4.heap.size w4 w' → Below wq.heap.size wq w') := Lib.hid fun w' hb => by
            rw [← HX.out]
            exact HQ.out.2.1.trans (hb.mono (by rw [HX.out]; exact HQ.out.2.1.size))
          have FS : Hid (∀ w', Below w4.heap.size w4 w' → (w'.cell? ⟨x12, 0, none⟩ = some (.slice (a 0) (ln 0) (cp 0)) ∧ w'.cell? ⟨x12, 1, none⟩ = some (.slice (a 1) (ln 1) (cp 1)) ∧ w'.cell? ⟨x12, 2, none⟩ = some (.slice (a 2) (ln 2) (cp 2)) ∧ w'.cell? ⟨x12, 3, none⟩ = some (.slice (a 3) (ln 3) (cp 3)))) := Lib.hid fun w' hb => by
            have k1 := HQ.out.1.below hb HQ.out.1.lt
            rw [HIV.out] at k1
            exact ⟨k1.cell 0, k1.cell 1, k1.cell 2, k1.cell 3⟩
          have HBQ : Hid (∀ w', Below wq.heap.size wq w' → Below w.heap.size w w') := Lib.hid fun w' hb => HP.out.bel.trans (hb.mono HP.out.bel.size)
          have FT : Hid (∀ i, i < 4 → ∀ w', Below w4.heap.size w4 w' → Calls Try.prog 8 #[.agg #[.slice (a i) (ln i) (cp i)]] w' (TwP (ln i) (t.w i) w')) := Lib.hid fun i hi w' hb => by
            have hat := HAT.out w' (HBQ.out _ (FB.out _ hb))
            obtain ⟨q1, q2⟩ := hat.le i hi
            have hl := (hat.rd i hi).1
            obtain ⟨z1, z2⟩ := smallW_le (HSZ.out.1 i hi)
            refine (twinWord2_any _ (a i) (ln i) (cp i) (t.w i) w' (hat.rd i hi) q1 q2 (by omega) z2).mono ?_
            rintro e w'' ⟨a', c', rfl, h1, h2, h3, h4, h5⟩
            rw [hl] at h1 h2 h4
            rw [hl]
            exact ⟨a', c', rfl, h1.mono fun q hl hq => ⟨hq, hl⟩, h2, h3, h4.mono fun q hl hq => ⟨hq, hl⟩, h5⟩
          have FZ : Hid (∀ i, i < 4 → ∀ w' q, Below w4.heap.size w4 w' → Blk w' q 36 z4.toArray → Calls Try.prog 8 #[.agg #[.slice (a i) (ln i) (cp i)]] w' (fun e w'' => TwP (ln i) (t.w i) w' e w'' ∧ Blk w'' q 36 z4.toArray)) := Lib.hid fun i hi w' q hb hq => (FT.out i hi w' hb).mono fun e w'' h => ⟨h, by
            obtain ⟨-, -, -, -, -, -, -, h5⟩ := h
            exact hq.below h5 hq.lt⟩
          have FZ0 := Lib.hid (FZ.out 0 (by omega))
          have FZ1 := Lib.hid (FZ.out 1 (by omega))
          have FZ2 := Lib.hid (FZ.out 2 (by omega))
          have FZ3 := Lib.hid (FZ.out 3 (by omega))
          clear FZ
          have FT0 := Lib.hid (FT.out 0 (by omega))
          have FT1 := Lib.hid (FT.out 1 (by omega))
          have FT2 := Lib.hid (FT.out 2 (by omega))
          have FT3 := Lib.hid (FT.out 3 (by omega))
          clear FT
          go_cut [13] from 63 to 75 (fun s13 wx => TwC w4.heap.size ln t w4 s13 wx)
          case first =>
            go_region_held3 (fun w' => (w'.cell? ⟨x12, 0, none⟩ = some (.slice (a 0) (ln 0) (cp 0)) ∧ w'.cell? ⟨x12, 1, none⟩ = some (.slice (a 1) (ln 1) (cp 1)) ∧ w'.cell? ⟨x12, 2, none⟩ = some (.slice (a 2) (ln 2) (cp 2)) ∧ w'.cell? ⟨x12, 3, none⟩ = some (.slice (a 3) (ln 3) (cp 3))))
              (((with_reducible refine FS.out _ ?_); repeat' (with_reducible first | exact Below.refl _ _ | exact H5.out | exact H6.out | exact H7.out | exact H8.out | refine Below.drew ?_ | refine bal ?_ _ | refine bpt z5 ?_ _ | refine bpt z6 ?_ _ | refine bpt z7 ?_ _ | refine bpt z8 ?_ _ | refine bpt H8.out.size ?_ _)))
              ((first
                | ((with_reducible refine (FZ3.out (w7) _ H7.out Z7.out).mono ?_); rintro e w8 ⟨⟨a3, c3, rfl, y1, y2, y3, y4, hb⟩, hz⟩; have K8 := Lib.hid (below_keep _ _ hb); have H8 : Hid (Below w4.heap.size w4 w8) := Lib.hid (H7.out.trans (hb.mono H7.out.size)); have Y3 := Lib.hid (And.intro y1 (And.intro y2 (And.intro y3 y4))); have Z8 := Lib.hid hz; have s8 := hb.size; have q8 := (hz.whole (n := 4) len_z4).2.2; clear y1 y2 y3 y4 hb hz)
                | ((with_reducible refine (FZ3.out (w7.alloc (Obj.cells z4.toArray 36)) (w7.heap.size) (bal H7.out _) (Blk.new _ _ _)).mono ?_); rintro e w8 ⟨⟨a3, c3, rfl, y1, y2, y3, y4, hb⟩, hz⟩; have K8 := Lib.hid (alloc_keep _ _ _ hb); have H8 : Hid (Below w4.heap.size w4 w8) := Lib.hid ((bal H7.out _).trans (hb.mono (bal H7.out _).size)); have Y3 := Lib.hid (And.intro y1 (And.intro y2 (And.intro y3 y4))); have Z8 := Lib.hid hz; have s8 := (by simpa using hb.size : w7.heap.size + 1 ≤ w8.heap.size); have r8 := (by simp : (w7.alloc (Obj.cells z4.toArray 36)).heap.size = w7.heap.size + 1); have q8 := (hz.whole (n := 4) len_z4).2.2; have z8 : w4.heap.size ≤ w7.heap.size := H7.out.size; clear y1 y2 y3 y4 hb hz)
                | ((with_reducible refine (FT3.out (w7) H7.out).mono ?_); rintro e w8 ⟨a3, c3, rfl, y1, y2, y3, y4, hb⟩; have K8 := Lib.hid (below_keep _ _ hb); have H8 : Hid (Below w4.heap.size w4 w8) := Lib.hid (H7.out.trans (hb.mono H7.out.size)); have Y3 := Lib.hid (And.intro y1 (And.intro y2 (And.intro y3 y4))); have s8 := hb.size; clear y1 y2 y3 y4 hb)
                | ((with_reducible refine (FZ2.out (w6) _ H6.out Z6.out).mono ?_); rintro e w7 ⟨⟨a2, c2, rfl, y1, y2, y3, y4, hb⟩, hz⟩; have K7 := Lib.hid (below_keep _ _ hb); have H7 : Hid (Below w4.heap.size w4 w7) := Lib.hid (H6.out.trans (hb.mono H6.out.size)); have Y2 := Lib.hid (And.intro y1 (And.intro y2 (And.intro y3 y4))); have Z7 := Lib.hid hz; have s7 := hb.size; have q7 := (hz.whole (n := 4) len_z4).2.2; clear y1 y2 y3 y4 hb hz)
                | ((with_reducible refine (FZ2.out (w6.alloc (Obj.cells z4.toArray 36)) (w6.heap.size) (bal H6.out _) (Blk.new _ _ _)).mono ?_); rintro e w7 ⟨⟨a2, c2, rfl, y1, y2, y3, y4, hb⟩, hz⟩; have K7 := Lib.hid (alloc_keep _ _ _ hb); have H7 : Hid (Below w4.heap.size w4 w7) := Lib.hid ((bal H6.out _).trans (hb.mono (bal H6.out _).size)); have Y2 := Lib.hid (And.intro y1 (And.intro y2 (And.intro y3 y4))); have Z7 := Lib.hid hz; have s7 := (by simpa using hb.size : w6.heap.size + 1 ≤ w7.heap.size); have r7 := (by simp : (w6.alloc (Obj.cells z4.toArray 36)).heap.size = w6.heap.size + 1); have q7 := (hz.whole (n := 4) len_z4).2.2; have z7 : w4.heap.size ≤ w6.heap.size := H6.out.size; clear y1 y2 y3 y4 hb hz)
                | ((with_reducible refine (FT2.out (w6) H6.out).mono ?_); rintro e w7 ⟨a2, c2, rfl, y1, y2, y3, y4, hb⟩; have K7 := Lib.hid (below_keep _ _ hb); have H7 : Hid (Below w4.heap.size w4 w7) := Lib.hid (H6.out.trans (hb.mono H6.out.size)); have Y2 := Lib.hid (And.intro y1 (And.intro y2 (And.intro y3 y4))); have s7 := hb.size; clear y1 y2 y3 y4 hb)
                | ((with_reducible refine (FZ1.out (w5) _ H5.out Z5.out).mono ?_); rintro e w6 ⟨⟨a1, c1, rfl, y1, y2, y3, y4, hb⟩, hz⟩; have K6 := Lib.hid (below_keep _ _ hb); have H6 : Hid (Below w4.heap.size w4 w6) := Lib.hid (H5.out.trans (hb.mono H5.out.size)); have Y1 := Lib.hid (And.intro y1 (And.intro y2 (And.intro y3 y4))); have Z6 := Lib.hid hz; have s6 := hb.size; have q6 := (hz.whole (n := 4) len_z4).2.2; clear y1 y2 y3 y4 hb hz)
                | ((with_reducible refine (FZ1.out (w5.alloc (Obj.cells z4.toArray 36)) (w5.heap.size) (bal H5.out _) (Blk.new _ _ _)).mono ?_); rintro e w6 ⟨⟨a1, c1, rfl, y1, y2, y3, y4, hb⟩, hz⟩; have K6 := Lib.hid (alloc_keep _ _ _ hb); have H6 : Hid (Below w4.heap.size w4 w6) := Lib.hid ((bal H5.out _).trans (hb.mono (bal H5.out _).size)); have Y1 := Lib.hid (And.intro y1 (And.intro y2 (And.intro y3 y4))); have Z6 := Lib.hid hz; have s6 := (by simpa using hb.size : w5.heap.size + 1 ≤ w6.heap.size); have r6 := (by simp : (w5.alloc (Obj.cells z4.toArray 36)).heap.size = w5.heap.size + 1); have q6 := (hz.whole (n := 4) len_z4).2.2; have z6 : w4.heap.size ≤ w5.heap.size := H5.out.size; clear y1 y2 y3 y4 hb hz)
                | ((with_reducible refine (FT1.out (w5) H5.out).mono ?_); rintro e w6 ⟨a1, c1, rfl, y1, y2, y3, y4, hb⟩; have K6 := Lib.hid (below_keep _ _ hb); have H6 : Hid (Below w4.heap.size w4 w6) := Lib.hid (H5.out.trans (hb.mono H5.out.size)); have Y1 := Lib.hid (And.intro y1 (And.intro y2 (And.intro y3 y4))); have s6 := hb.size; clear y1 y2 y3 y4 hb)
                | ((with_reducible refine (FZ0.out ((w4.alloc (Obj.cells z4.toArray 36)).drew) (w4.heap.size) ((bal (Below.refl w4.heap.size w4) _).drew) (by first | exact (Blk.new _ _ _) | exact (Blk.new _ _ _).drew)).mono ?_); rintro e w5 ⟨⟨a0, c0, rfl, y1, y2, y3, y4, hb⟩, hz⟩; have H5 : Hid (Below w4.heap.size w4 w5) := Lib.hid (((bal (Below.refl w4.heap.size w4) _).drew).trans (hb.mono ((bal (Below.refl w4.heap.size w4) _).drew).size)); have Y0 := Lib.hid (And.intro y1 (And.intro y2 (And.intro y3 y4))); have Z5 := Lib.hid hz; have s5 := (by simpa using hb.size : w4.heap.size + 1 ≤ w5.heap.size); have r5 := (by simp : ((w4.alloc (Obj.cells z4.toArray 36)).drew).heap.size = w4.heap.size + 1); have q5 := (hz.whole (n := 4) len_z4).2.2; have z5 : w4.heap.size ≤ w4.heap.size := Nat.le_refl _; clear y1 y2 y3 y4 hb hz)
                | ((with_reducible refine (FZ0.out ((w4.drew).alloc (Obj.cells z4.toArray 36)) (w4.heap.size) ((bal (Below.refl w4.heap.size w4).drew _)) (by first | exact (Blk.new _ _ _) | exact (Blk.new _ _ _).drew)).mono ?_); rintro e w5 ⟨⟨a0, c0, rfl, y1, y2, y3, y4, hb⟩, hz⟩; have H5 : Hid (Below w4.heap.size w4 w5) := Lib.hid (((bal (Below.refl w4.heap.size w4).drew _)).trans (hb.mono ((bal (Below.refl w4.heap.size w4).drew _)).size)); have Y0 := Lib.hid (And.intro y1 (And.intro y2 (And.intro y3 y4))); have Z5 := Lib.hid hz; have s5 := (by simpa using hb.size : w4.heap.size + 1 ≤ w5.heap.size); have r5 := (by simp : ((w4.drew).alloc (Obj.cells z4.toArray 36)).heap.size = w4.heap.size + 1); have q5 := (hz.whole (n := 4) len_z4).2.2; have z5 : w4.heap.size ≤ w4.heap.size := Nat.le_refl _; clear y1 y2 y3 y4 hb hz)
                | ((with_reducible refine (FT0.out (w4.drew) (Below.refl _ _).drew).mono ?_); rintro e w5 ⟨a0, c0, rfl, y1, y2, y3, y4, hb⟩; have H5 : Hid (Below w4.heap.size w4 w5) := Lib.hid ((Below.refl w4.heap.size w4).drew.trans hb); have Y0 := Lib.hid (And.intro y1 (And.intro y2 (And.intro y3 y4))); have s5 : w4.heap.size ≤ w5.heap.size := hb.size; have r5 : (w4.drew).heap.size = w4.heap.size := rfl; clear y1 y2 y3 y4 hb)))
            all_goals go_wp2_with fail
            all_goals go_meet
            all_goals first
              | exact TwC.mk Y0.out Y1.out Y2.out Y3.out K6.out K7.out K8.out ((Chg.refl _ _).alloc _) (by omega) (by omega) (by omega) (by omega) (by omega) (by omega) (bal H8.out _) (Blk.new _ _ _)
              | exact TwC.mk Y0.out Y1.out Y2.out Y3.out K6.out K7.out K8.out (chg_put _ _ _ _) (by omega) (by omega) (by omega) (by omega) (by omega) (by omega) (bpt (by omega) H8.out _) (Z8.out.put_all len_z4)
          case rest =>
            obtain ⟨wc, x13, a', c', rfl, rfl, hx13, hb13, htw, hbc⟩ := hcut
            obtain ⟨w5, rfl⟩ : ∃ w5, w5 = wc := ⟨_, rfl⟩
            have HC5 := Lib.hid (And.intro hb13 (And.intro htw (And.intro hbc hx13)))
            clear hb13 htw hbc hx13 FT0 FT1 FT2 FT3 FZ0 FZ1 FZ2 FZ3
            have HB5 := Lib.hid (FB.out w5 HC5.out.2.2.1)
            have hat := HAT.out w5 (HBQ.out w5 HB5.out)
            have g1 := hat.r1
            have g2 := hat.r2
            have hro := hat.ro
            have hvl := Rw.len hat.ro tv
            have hvc := hat.rt.cell1 hat.ro
            obtain ⟨ov, hov⟩ : ∃ ov, ov = t.own.vals tv := ⟨_, rfl⟩
            have HTW := Lib.hid (twin_any _ t.own hat.ro tv w5 hat.rt (by have := HSZ.out.2; omega))
            rw [← hov] at g2 hvl hvc HTW
            have HOV := Lib.hid hov
            clear hov hat
            go_upto_region 15 with ((with_reducible refine HTW.out.mono ?_); rintro e w6 ⟨tv', rfl, hw6, hb6⟩; obtain ⟨ov', hov'⟩ : ∃ ov', ov' = t.own.vals tv' := ⟨_, rfl⟩; rw [← hov']; have hvl' : ov'.length = 57 := (by rw [hov']; exact Rw.len hro _); have hvc' : ov'.all cell1 = true := (by rw [hov']; exact hw6.row.cell1 hro); have HOV' := Lib.hid hov'; have HW6 := Lib.hid (And.intro hw6 hb6); clear hov' hw6 hb6)
            have HI : Hid (PlI (fun b => wq.heap.size ≤ b ∧ b < (w6.alloc (.cells ov'.toArray 54)).heap.size) t a ln cp a' c' tv' x12 x13 w6.heap.size (w6.alloc (.cells ov'.toArray 54)) ∧
                PlS w p gp lb (fun b => wq.heap.size ≤ b ∧ b < (w6.alloc (.cells ov'.toArray 54)).heap.size) S D G L M vo vc (w6.alloc (.cells ov'.toArray 54)) ∧ Below wq.heap.size wq (w6.alloc (.cells ov'.toArray 54))) := Lib.hid (by
              obtain ⟨y1, y2, y3, y4⟩ := HC5.out
              obtain ⟨u1, u2⟩ := HW6.out
              have hB : Below w5.heap.size w5 (w6.alloc (.cells ov'.toArray 54)) := u2.alloc u2.size _
              have hq := HB5.out.trans (hB.mono HB5.out.size)
              have hs : (w6.alloc (.cells ov'.toArray 54)).heap.size = w6.heap.size + 1 := by simp
              have z1 := u2.size
              have z2 := y3.size
              have z3 := HQ.out.2.2
              have z4 := HX.out
              have k12 := ((HQ.out.1.below y3 HQ.out.1.lt).below hB (by omega))
              rw [HIV.out, HOV'.out] at k12
              have k13 := y1.below hB y1.lt
              have k14 := Blk.new w6 54 ov'.toArray
              rw [HOV'.out] at k14
              have h13 := y1.lt
              rw [HOV'.out] at hs hB hq ⊢
              rw [HOV'.out] at k13
              refine ⟨⟨k12, k13, k14, ⟨by omega, by omega, by omega⟩, fun i hi => ?_, ?_⟩, (HP.out.grow hq).jmono fun b hb => .inr hb, hq⟩
              · obtain ⟨q1, q2, q3, q4⟩ := y2 i hi
                exact ⟨(q1.below hB).mono fun b hl hb => ⟨by omega, hl⟩, q2, q3, (q4.below hB).mono fun b hl hb => ⟨by omega, hl⟩⟩
              · have h6 : Below w6.heap.size w6 (w6.alloc (.cells (t.own.vals tv').toArray 54)) := (Below.refl _ _).alloc (Nat.le_refl _) _
                exact (u1.below h6).mono fun b hl hb => ⟨by omega, hl⟩)
            generalize w6.alloc (.cells ov'.toArray 54) = w7 at HI ⊢
            obtain ⟨x14, hx14⟩ : ∃ x14, x14 = w6.heap.size := ⟨_, rfl⟩
            rw [← hx14] at HI
            rw [← hx14]
            clear hx14 HW6 HTW HC5 g1 g2 hvl hvc HOV HB5
            obtain ⟨T, hT⟩ : ∃ T : Nat → Prop, T = fun b => wq.heap.size ≤ b ∧ b < w7.heap.size := ⟨_, rfl⟩
            rw [← hT] at HI
            clear hT
            have HL4 : Hid (M.n = n ∧ M.me = me ∧ M.T = k) := Lib.hid (by
              obtain ⟨h1, h2, h3, h4⟩ := HLK.out
              exact ⟨by rw [← h1.n, h2], by rw [← h1.me, h3], by rw [← h1.T, h4]⟩)
            have HHE := Lib.hid (hear_any S T p gp G L a' ln c' (wd t) w7 HI.out.2.1.la ⟨fun i hi => by rw [wd_at t hi]; exact (HI.out.1.tw i hi).1.rd, fun i hi => ⟨(HI.out.1.tw i hi).2.1, (HI.out.1.tw i hi).2.2.1⟩⟩ (fun b hb => by
              have h1 := HI.out.2.1.nj b hb
              exact ⟨fun e => h1.2.1 (by rw [e]; exact HI.out.2.1.la.sp), fun e => h1.2.1 (by rw [e]; exact HI.out.2.1.la.sg)⟩) (by rw [HLK.out.2.2.2]; omega) (fun i r hr => by
              by_cases hi : i < 4
              · rw [wd_at t hi] at hr
                exact (HI.out.1.tw i hi).1.2.1 r hr
              · unfold wd at hr
                rw [if_neg hi] at hr
                cases hr))
            unfold insV at HHE
            have g3 := (HI.out.1.b13.whole (n := 4) rfl)
            unfold insV at g3
            obtain ⟨g3, g4, -⟩ := g3
            go_wp2_with fail
            (with_reducible refine HHE.out.mono ?_)
            intro e w8 hpost
            obtain ⟨m8, G8, gh, rfl, hP8, hm8, hmg8, hrb8, hc8⟩ := HI.out.2.1.hear hpost
            rw [HLK.out.2.1] at hrb8 ⊢
            clear hpost HHE g3 g4
            have HP8 := Lib.hid hP8
            have HH8 := Lib.hid (And.intro hrb8 (And.intro hm8 (And.intro hmg8 hc8)))
            have HI8 : Hid (PlI T t a ln cp a' c' tv' x12 x13 x14 w8) := Lib.hid (HI.out.1.keep hc8.size fun b hb hl => hc8.block b hl (HI.out.2.1.nj b hb).2.1)
            clear hP8 hm8 hmg8 hrb8 hc8
            have HTJ : Hid (∀ b, T b → (T b ∨ (m8 ≤ b ∧ b < w8.heap.size))) := Lib.hid fun b hb => .inl hb
            have FS8 : Hid (∀ w', Below w8.heap.size w8 w' → (w'.cell? ⟨x12, 0, none⟩ = some (.slice (a 0) (ln 0) (cp 0)) ∧ w'.cell? ⟨x12, 1, none⟩ = some (.slice (a 1) (ln 1) (cp 1)) ∧ w'.cell? ⟨x12, 2, none⟩ = some (.slice (a 2) (ln 2) (cp 2)) ∧ w'.cell? ⟨x12, 3, none⟩ = some (.slice (a 3) (ln 3) (cp 3)))) := Lib.hid fun w' hb => by
              have k1 := HI8.out.b12.below hb HI8.out.b12.lt
              exact ⟨k1.cell 0, k1.cell 1, k1.cell 2, k1.cell 3⟩
            have FO : Hid (∀ i, i < 4 → ∀ w', Below w8.heap.size w8 w' → Calls Try.prog 12 #[.agg #[.slice (a i) (ln i) (cp i)]] w' (OtP w8.heap.size (ln i) (t.w i) w')) := Lib.hid fun i hi w' hb => by
              have hat := HAT.out w' (HP8.out.bel.trans (hb.mono HP8.out.bel.size))
              obtain ⟨q1, q2⟩ := hat.le i hi
              have hl := (hat.rd i hi).1
              obtain ⟨z1, z2⟩ := smallW_le (HSZ.out.1 i hi)
              refine (other14_any _ (a i) (ln i) (cp i) (t.w i) w' (hat.rd i hi) q1 q2 (by omega) z2).mono ?_
              rintro e w'' ⟨a', c', rfl, h1, h2, h3, h4⟩
              rw [hl] at h1 h2
              rw [hl]
              have hs := hb.size
              exact ⟨a', c', rfl, h1.mono fun q hl hq => Nat.le_trans hs hq, h2, h3, h4⟩
            have FO0 := Lib.hid (FO.out 0 (by omega))
            have FO1 := Lib.hid (FO.out 1 (by omega))
            have FO2 := Lib.hid (FO.out 2 (by omega))
            have FO3 := Lib.hid (FO.out 3 (by omega))
            clear FO
            have FH : Hid (∀ (w' : World) (oa0 : Option Addr) (oc0 : Nat) (oa1 : Option Addr) (oc1 : Nat) (oa2 : Option Addr) (oc2 : Nat) (oa3 : Option Addr) (oc3 : Nat), Below w8.heap.size w8 w' → (RdRs (w8.heap.size ≤ ·) w' oa0 (ln 0) (t.w 0) ∧ ln 0 ≤ oc0 ∧ oc0 ≤ maxLen) → (RdRs (w8.heap.size ≤ ·) w' oa1 (ln 1) (t.w 1) ∧ ln 1 ≤ oc1 ∧ oc1 ≤ maxLen) → (RdRs (w8.heap.size ≤ ·) w' oa2 (ln 2) (t.w 2) ∧ ln 2 ≤ oc2 ∧ oc2 ≤ maxLen) → (RdRs (w8.heap.size ≤ ·) w' oa3 (ln 3) (t.w 3) ∧ ln 3 ≤ oc3 ∧ oc3 ≤ maxLen) →
                Calls Try.prog 11 #[.pointer (some ⟨lb, 0, none⟩), .agg #[.slice oa0 (ln 0) oc0, .slice oa1 (ln 1) oc1, .slice oa2 (ln 2) oc2, .slice oa3 (ln 3) oc3]] w' (RHeard D lb M vo vc (wd t) w')) := Lib.hid fun w' oa0 oc0 oa1 oc1 oa2 oc2 oa3 oc3 hb h0 h1 h2 h3 =>
              rhear_any (R := (w8.heap.size ≤ ·)) (a := four oa0 oa1 oa2 oa3) (ln := ln) (cp := four oc0 oc1 oc2 oc3) (ins := wd t) (HP8.out.rf.below hb) ⟨fun i hi => by
                rw [wd_at t hi]
                match i, hi with
                | 0, _ => exact h0.1
                | 1, _ => exact h1.1
                | 2, _ => exact h2.1
                | 3, _ => exact h3.1, fun i hi => by
                match i, hi with
                | 0, _ => exact h0.2
                | 1, _ => exact h1.2
                | 2, _ => exact h2.2
                | 3, _ => exact h3.2⟩ (fun b hb hc => by
                  have hR : RfS D lb vo vc b := by
                    rcases hc with hc | hc | hc
                    · exact .inl hc
                    · exact .inr (.inl hc)
                    · exact .inr (.inr (.inl hc))
                  have hl := HP8.out.rf.lt hR
                  have hb' : w8.heap.size ≤ b := hb
                  omega) (by rw [HL4.out.2.2]; omega)
            go_upto_region 16 with fail
            go_region_held3 (fun w' => (w'.cell? ⟨x12, 0, none⟩ = some (.slice (a 0) (ln 0) (cp 0)) ∧ w'.cell? ⟨x12, 1, none⟩ = some (.slice (a 1) (ln 1) (cp 1)) ∧ w'.cell? ⟨x12, 2, none⟩ = some (.slice (a 2) (ln 2) (cp 2)) ∧ w'.cell? ⟨x12, 3, none⟩ = some (.slice (a 3) (ln 3) (cp 3))))
              (((with_reducible first | (refine FS8.out _ ?_; first | exact (Below.refl _ _).drew | exact H9.out | exact H10.out | exact H11.out | exact H12.out) | exact FS13.out)))
              ((first
                | ((with_reducible refine (FH.out w12 oa0 oc0 oa1 oc1 oa2 oc2 oa3 oc3 H12.out ⟨((O0.out.1.below' B10.out).below' B11.out).below' B12.out, O0.out.2⟩ ⟨(O1.out.1.below' B11.out).below' B12.out, O1.out.2⟩ ⟨O2.out.1.below' B12.out, O2.out.2⟩ O3.out).mono ?_); intro e w13 hpost; obtain ⟨D13, vo13, vc13, ra, rc, rfl, hP13, hr13, hr1, hr2, hc13⟩ := (HP8.out.below H12.out).rhear hpost; have HP13 := Lib.hid hP13; have FS13 := Lib.hid (fs_x12 ((HI8.out.below H12.out).keep hc13.size fun b hb hl => hc13.block b hl ((HP8.out.below H12.out).nj b (HTJ.out b hb)).2.2.1)); have HR13 := Lib.hid (And.intro hr13 (And.intro hr1 (And.intro hr2 hc13))); clear hP13 hr13 hr1 hr2 hc13 hpost)
                | ((with_reducible refine (FO3.out w11 H11.out).mono ?_); rintro e w12 ⟨oa3, oc3, rfl, y1, y2, y3, hb⟩; have B12 := Lib.hid hb; have H12 : Hid (Below w8.heap.size w8 w12) := Lib.hid (H11.out.trans (hb.mono H11.out.size)); have O3 := Lib.hid (And.intro y1 (And.intro y2 y3)); clear y1 y2 y3 hb)
                | ((with_reducible refine (FO2.out w10 H10.out).mono ?_); rintro e w11 ⟨oa2, oc2, rfl, y1, y2, y3, hb⟩; have B11 := Lib.hid hb; have H11 : Hid (Below w8.heap.size w8 w11) := Lib.hid (H10.out.trans (hb.mono H10.out.size)); have O2 := Lib.hid (And.intro y1 (And.intro y2 y3)); clear y1 y2 y3 hb)
                | ((with_reducible refine (FO1.out w9 H9.out).mono ?_); rintro e w10 ⟨oa1, oc1, rfl, y1, y2, y3, hb⟩; have B10 := Lib.hid hb; have H10 : Hid (Below w8.heap.size w8 w10) := Lib.hid (H9.out.trans (hb.mono H9.out.size)); have O1 := Lib.hid (And.intro y1 (And.intro y2 y3)); clear y1 y2 y3 hb)
                | ((with_reducible refine (FO0.out (w8.drew) (Below.refl _ _).drew).mono ?_); rintro e w9 ⟨oa0, oc0, rfl, y1, y2, y3, hb⟩; have B9 := Lib.hid hb; have H9 : Hid (Below w8.heap.size w8 w9) := Lib.hid ((Below.refl w8.heap.size w8).drew.trans hb); have O0 := Lib.hid (And.intro y1 (And.intro y2 y3)); clear y1 y2 y3 hb)))
            clear FO0 FO1 FO2 FO3 FH FS8
            have HKJ : Hid (∀ b, (T b ∨ (m8 ≤ b ∧ b < w8.heap.size)) → b < w8.heap.size → w13.heap[b]? = w8.heap[b]?) := Lib.hid fun b hb hl => (HR13.out.2.2.2.block b (Nat.lt_of_lt_of_le hl H12.out.size) ((HP8.out.below H12.out).nj b hb).2.2.1).trans (H12.out.block b hl)
            have HS13 : Hid (w8.heap.size ≤ w13.heap.size) := Lib.hid (Nat.le_trans H12.out.size HR13.out.2.2.2.size)
            have HI13 : Hid (PlI T t a ln cp a' c' tv' x12 x13 x14 w13) := Lib.hid (HI8.out.keep HS13.out fun b hb hl => HKJ.out b (.inl hb) hl)
            have HH13 : Hid (RowsB (fun b => m8 ≤ b ∧ b < w8.heap.size) w13 gh 54 (tab n (L.put (wd t)).held) ∧ m8 ≤ gh ∧ gh < w8.heap.size) := Lib.hid (by
              obtain ⟨r1, r2, r3, r4⟩ := HH8.out
              have hg := r1.lt
              exact ⟨(r1.mono (S' := fun b => m8 ≤ b ∧ b < w8.heap.size) fun b hl hb => ⟨hb.1, hl⟩).keep HS13.out (fun b hb hl => HKJ.out b (by rcases hb with rfl | hb; exact .inr ⟨r3, hl⟩; exact .inr hb) hl), r3, hg⟩)
            obtain ⟨L1, hL1⟩ : ∃ L1, L1 = L.put (wd t) := ⟨_, rfl⟩
            obtain ⟨M1, hM1⟩ : ∃ M1, M1 = M.put (wd t) := ⟨_, rfl⟩
            have HLK1 : Hid (LkM L1 M1 ∧ L1.n = n ∧ L1.me = me ∧ L1.T = k + 1 ∧ L1.b = true ∧ M1.n = n ∧ M1.T = k + 1 ∧ M1.b = true) := Lib.hid (by
              obtain ⟨h1, h2, h3, h4⟩ := HLK.out
              obtain ⟨h5, h6, h7⟩ := HL4.out
              rw [hL1, hM1]
              exact ⟨h1.put _, h2, h3, by show L.T + 1 = _; rw [h4], rfl, h5, by show M.T + 1 = _; rw [h7], rfl⟩)
            rw [← hL1] at HP13 HH13
            rw [← hM1] at HP13 HR13
            obtain ⟨J, hJ⟩ : ∃ J : Nat → Prop, J = fun b => T b ∨ (m8 ≤ b ∧ b < w8.heap.size) := ⟨_, rfl⟩
            have HTJ' : Hid ((∀ b, T b → J b) ∧ ∀ b, m8 ≤ b ∧ b < w8.heap.size → J b) := Lib.hid (by rw [hJ]; exact ⟨fun b hb => .inl hb, fun b hb => .inr hb⟩)
            rw [← hJ] at HP13
            have HSA : Hid (Calls Try.prog 13 #[.slice (some ⟨gh, 0, none⟩) n n, .slice ra M.n rc] w13 fun e w' => e = .returned (.bool true) ∧ Below w13.heap.size w13 w') := Lib.hid (by
              obtain ⟨k1, k2, k3, k4, k5, k6, k7, k8⟩ := HLK1.out
              obtain ⟨r1, r2, r3, -⟩ := HR13.out
              have hM : M.n = n := HL4.out.1
              have e : tab M.n M1.held = tab n L1.held := by
                rw [hM]
                exact tab_congr fun s hs => (k1.held (by rw [k6]; exact hs)).symm
              rw [e] at r1
              have hrd := HH13.out.1.rd (fun r hr => by
                obtain ⟨s, -, rfl⟩ := tab_mem hr
                exact LaneM.held_ok HP13.out.la.ok s)
              rw [tab_len] at hrd
              rw [hM] at r1 r2 ⊢
              exact sameAll_refl _ _ _ _ n n rc _ w13 hrd (Nat.le_refl _) (by unfold maxLen; omega) r1 r2 r3 (fun r hr => by
                obtain ⟨s, -, rfl⟩ := tab_mem hr
                have := LaneM.held_tlen HP13.out.la.okt s
                omega))
            clear hL1 hM1 hJ
            go_wp2_with fail
            (with_reducible refine HSA.out.mono ?_)
            rintro e w14 ⟨rfl, hb14⟩
            have HP14 := Lib.hid (HP13.out.below hb14)
            have HI14 := Lib.hid (HI13.out.below hb14)
            have HH14 : Hid (SpS J w14 (some ⟨gh, 0, none⟩) n) := Lib.hid (by
              have h1 := (HH13.out.1.below hb14).sp (T := J) (fun r hr => by
                obtain ⟨s, -, rfl⟩ := tab_mem hr
                exact LaneM.held_ok HP13.out.la.ok s) (fun b _ hb => HTJ'.out.2 b hb) (HTJ'.out.2 gh ⟨HH13.out.2.1, HH13.out.2.2⟩)
              rw [tab_len] at h1
              exact h1)
            clear hb14 HSA HH13 HI13 HP13 HKJ HS13 HR13 HH8 HI8 HP8 HI HP FB FS O0 O1 O2 O3 B10 B11 B12 H9 H10 H11 H12
            go_upto_region 20 with fail
            have HQ0 : Hid (PlQ w p gp lb T t a ln cp a' c' tv' x12 x13 x14 gh n w14.heap.size (w14.heap.size + 1) (fun b => J b ∨ (w14.heap.size ≤ b ∧ b < ((w14.alloc (.cells #[.slice none 0 0] 34)).alloc (.cells #[.slice none 0 0] 34)).heap.size)) J (GrowS S w7.heap.size m8) D13 G8 L1 M1 vo13 vc13 (.slice none 0 0) (.slice none 0 0) (16 * 0) ((w14.alloc (.cells #[.slice none 0 0] 34)).alloc (.cells #[.slice none 0 0] 34))) := Lib.hid (by
              have hb : Below w14.heap.size w14 ((w14.alloc (.cells #[.slice none 0 0] 34)).alloc (.cells #[.slice none 0 0] 34)) := ((Below.refl _ _).alloc (Nat.le_refl _) _).alloc (by simp) _
              have hs : ((w14.alloc (.cells #[.slice none 0 0] 34)).alloc (.cells #[.slice none 0 0] 34)).heap.size = w14.heap.size + 2 := by simp
              refine ⟨HP14.out.grow hb, HI14.out.below hb, HH14.out.below hb, fun q hq => ?_, HTJ'.out.1, ?_, (Blk.new _ _ _).alloc _, new1 w14 _ [Value.slice none 0 0] _, CwV.nil _ _ _, CwV.nil _ _ _⟩
              · have := (HP14.out.nj q hq).1
                exact ⟨.inl hq, by omega, by omega⟩
              · exact ⟨.inr ⟨Nat.le_refl _, by omega⟩, .inr ⟨by omega, by omega⟩, by omega⟩)
            generalize ((w14.alloc (.cells #[.slice none 0 0] 34)).alloc (.cells #[.slice none 0 0] 34)) = w15 at HQ0 ⊢
            obtain ⟨x17, hx17⟩ : ∃ x17, x17 = w14.heap.size := ⟨_, rfl⟩
            obtain ⟨x18, hx18⟩ : ∃ x18, x18 = w14.heap.size + 1 := ⟨_, rfl⟩
            rw [← hx18, ← hx17] at HQ0
            rw [← hx18, ← hx17]
            clear hx17 hx18 HP14 HI14 HH14
            obtain ⟨sm, hsm⟩ : ∃ sm : Nat, (sm : Int) = t.says % 3 := ⟨(t.says % 3).toNat, by omega⟩
            have HSR : Hid (0 ≤ t.says ∧ t.says ≤ 255) := Lib.hid (HAT.out w15 HQ0.out.s.bel).sr
            obtain ⟨sy, hsy⟩ : ∃ sy, sy = t.says := ⟨_, rfl⟩
            rw [← hsy] at hsm HSR
            have hsm1 : sy.tmod 3 = (sm : Int) := by rw [Int.tmod_eq_emod_of_nonneg HSR.out.1]; omega
            have hsm2 : sy % 3 = (sm : Int) := by omega
            have hsm3 : sm < 3 := by omega
            have HSY := Lib.hid hsy
            clear hsm hsy
            go_wp2_with fail
            go_loopw [19] (fun s19 wr => ∃ (j : Nat) (J2 Q2 S2 D2 : Nat → Prop) (L2 : LaneM) (M2 : RfM) (v17 v18 : Value), j ≤ sm ∧ s19 = .int .u8 j ∧ PlQ w p gp lb T t a ln cp a' c' tv' x12 x13 x14 gh n x17 x18 J2 Q2 S2 D2 G8 L2 M2 vo13 vc13 v17 v18 (16 * j) wr ∧ (j = 0 ∧ L2 = L1 ∧ M2 = M1 ∧ v17 = .slice none 0 0 ∧ v18 = .slice none 0 0 ∨ 1 ≤ j ∧ L2 = L1.said t.own ∧ M2 = M1.said t.own)) (fun i _ => sm - (intOf i).toNat)
            case atStart => exact ⟨0, _, _, _, _, _, _, _, _, by omega, rfl, HQ0.out, .inl ⟨rfl, rfl, rfl, rfl, rfl⟩⟩
            case round =>
              clear HQ0
              obtain ⟨j, J2, Q2, S2, D2, L2, M2, v17, v18, hj, rfl, hQ, hcs⟩ := hrel
              obtain ⟨wx, rfl⟩ : ∃ wx, wx = wr := ⟨_, rfl⟩
              have HQ := Lib.hid hQ
              have HCS := Lib.hid hcs
              clear hQ hcs
              have hj0 : (0 : Int) ≤ j := by omega
              have hat := HAT.out wx HQ.out.s.bel
              have hat5 := hat.s
              rw [← HSY.out] at hat5
              have HLK2 : Hid (LkM L2 M2 ∧ L2.T = k + 1 ∧ M2.T = k + 1 ∧ L2.n = n ∧ M2.n = n ∧ LkM (L2.said t.own) (M2.said t.own) ∧ (M2.said t.own).T = k + 1 ∧ L2.b = M2.b) := Lib.hid (by
                obtain ⟨k1, k2, k3, k4, k5, k6, k7, k8⟩ := HLK1.out
                have e1 : ∀ (L : LaneM), (L.said t.own).T = L.T ∧ (L.said t.own).n = L.n := fun L => by unfold LaneM.said; split <;> exact ⟨rfl, rfl⟩
                have e2 : ∀ (M : RfM), (M.said t.own).T = M.T ∧ (M.said t.own).n = M.n := fun M => by unfold RfM.said; split <;> exact ⟨rfl, rfl⟩
                rcases HCS.out with ⟨-, rfl, rfl, -, -⟩ | ⟨-, rfl, rfl⟩
                · exact ⟨k1, k4, k7, k2, k6, k1.said _ fun _ => by omega, by rw [(e2 M2).1, k7], k1.b⟩
                · have h2 : LkM (L1.said t.own) (M1.said t.own) := k1.said _ fun _ => by omega
                  exact ⟨h2, by rw [(e1 L1).1, k4], by rw [(e2 M1).1, k7], by rw [(e1 L1).2, k2], by rw [(e2 M1).2, k6], h2.said _ fun _ => by rw [(e2 M1).1]; omega, by rw [(e2 _).1, (e2 M1).1, k7], h2.b⟩)
              clear hat
              by_cases hjs : j < sm
              · --[A
                have hjs' : (j : Int) < sm := by omega
                have hvb := HQ.out.i.b14
                rw [← HOV'.out] at hvb
                obtain ⟨g1, g2, -⟩ := hvb.whole hvl'
                have HSAY := Lib.hid (say_u HQ.out.s (by rw [HLK2.out.2.1]; omega) (by rw [HLK2.out.2.1]; omega) hro (HQ.out.i.ow.row.mono fun q _ hq => (HQ.out.q q (HQ.out.tq q hq)).1))
                rw [← HOV'.out] at HSAY
                clear hvb
                go_wp2_with fail
                (with_reducible refine HSAY.out.mono ?_)
                rintro e w16 ⟨N, a0, a1, l0, l1, cs0, cs1, J3, S3, rfl, hs3, hJ3, hk3, hz3, hr0, hr1, hN16, hcase⟩
                have HR01 := Lib.hid (And.intro hr0 (And.intro hr1 hcase))
                have HQ16 := Lib.hid (HQ.out.move hs3 hJ3 hk3 hz3)
                have HZ3 := Lib.hid hz3
                clear HSAY hs3 hJ3 hk3 hz3 hr0 hr1 hcase g1 g2 hat5
                go_upto_region 24 with fail
                have HQ17 : Hid (PlQ w p gp lb T t a ln cp a' c' tv' x12 x13 x14 gh n x17 x18 (fun q => J3 q ∨ (w16.heap.size ≤ q ∧ q < ((w16.alloc (.cells #[.slice a0 N N] 34)).alloc (.cells #[.slice a1 N N] 34)).heap.size)) Q2 S3 D2 G8 (L2.said t.own) M2 vo13 vc13 v17 v18 (16 * j) ((w16.alloc (.cells #[.slice a0 N N] 34)).alloc (.cells #[.slice a1 N N] 34)) ∧
                    Below w16.heap.size w16 ((w16.alloc (.cells #[.slice a0 N N] 34)).alloc (.cells #[.slice a1 N N] 34)) ∧ Blk ((w16.alloc (.cells #[.slice a0 N N] 34)).alloc (.cells #[.slice a1 N N] 34)) w16.heap.size 34 #[.slice a0 N N] ∧ Blk ((w16.alloc (.cells #[.slice a0 N N] 34)).alloc (.cells #[.slice a1 N N] 34)) (w16.heap.size + 1) 34 #[.slice a1 N N]) := Lib.hid (by
                  have hb : Below w16.heap.size w16 ((w16.alloc (.cells #[.slice a0 N N] 34)).alloc (.cells #[.slice a1 N N] 34)) := ((Below.refl _ _).alloc (Nat.le_refl _) _).alloc (by simp) _
                  exact ⟨HQ16.out.grow hb, hb, (Blk.new _ _ _).alloc _, new1 w16 _ [.slice a1 N N] _⟩)
                generalize ((w16.alloc (.cells #[.slice a0 N N] 34)).alloc (.cells #[.slice a1 N N] 34)) = w17 at HQ17 ⊢
                obtain ⟨x20, hx20⟩ : ∃ x20, x20 = w16.heap.size := ⟨_, rfl⟩
                have HX20 : Hid (x20 + 1 < w17.heap.size ∧ wx.heap.size ≤ x20) := Lib.hid (by
                  have := HQ17.out.2.2.2.lt
                  rw [hx20]
                  exact ⟨this, HZ3.out⟩)
                rw [← hx20] at HQ17
                rw [← hx20]
                have HW16 : Hid (x20 = w16.heap.size) := Lib.hid hx20
                clear hx20
                have hat := HAT.out w17 HQ17.out.1.s.bel
                have g1 := hat.r1
                have g2 := hat.r2
                have hrt := hat.rt
                have HOT := Lib.hid (other_any _ t.own hro tv w17 hrt (by have := HSZ.out.2; omega))
                obtain ⟨ov2, hov2⟩ : ∃ ov2, ov2 = t.own.vals tv := ⟨_, rfl⟩
                rw [← hov2] at g2 HOT
                clear hat hrt hov2
                go_wp2_with fail
                (with_reducible refine HOT.out.mono ?_)
                rintro e w18 ⟨tv2, rfl, hrow2, hb18⟩
                have HQ18 := Lib.hid (HQ17.out.1.below hb18)
                have HB18 := Lib.hid hb18
                have HRS := Lib.hid (rsay_u HQ18.out.s (by rw [HLK2.out.2.2.1]; omega) hro hrow2 (fun q hq hc => by
                  have hR : RfS D2 lb vo13 vc13 q := by
                    rcases hc with hc | hc | hc
                    · exact .inl hc
                    · exact .inr (.inl hc)
                    · exact .inr (.inr (.inl hc))
                  have hl := HQ17.out.1.s.rf.lt hR
                  have hb' : w17.heap.size ≤ q := hq
                  omega))
                clear hrow2 hb18 HOT g1 g2
                go_wp2_with fail
                (with_reducible refine HRS.out.mono ?_)
                rintro e w19 ⟨N', b0, b1, d0, d1, l0', l1', D3, rfl, hs4, hk4, hz4, x0, x1, y, hcase'⟩
                have hNe : N' = N ∧ l0' = l0 ∧ l1' = l1 := by
                  obtain ⟨k1, k2, k3, k4, k5, k6, k7, k8⟩ := HLK2.out
                  have o0 := k6.out (by rw [k7]; omega) (way := 0) (by omega)
                  have o1 := k6.out (by rw [k7]; omega) (way := 1) (by omega)
                  rcases HR01.out.2.2 with ⟨h1, h2, h3, h4⟩ | ⟨h1, h2, h3, h4⟩
                  · rcases hcase' with ⟨h5, h6, h7, h8⟩ | ⟨h5, -⟩
                    · exact ⟨by rw [h6, h2, k4, k5], by rw [h7, h3]; exact o0.symm, by rw [h8, h4]; exact o1.symm⟩
                    · rw [k8, h5] at h1; cases h1
                  · rcases hcase' with ⟨h5, -⟩ | ⟨h5, h6, h7, h8⟩
                    · rw [k8, h5] at h1; cases h1
                    · exact ⟨by rw [h6, h2], by rw [h7, h3], by rw [h8, h4]⟩
                obtain ⟨rfl, rfl, rfl⟩ := hNe
                have HQ19 := Lib.hid (HQ18.out.move hs4 (fun _ h => h) hk4 hz4)
                have HB19 : Hid (∀ q, (J3 q ∨ (x20 ≤ q ∧ q < w17.heap.size)) → q < w17.heap.size → w19.heap[q]? = w17.heap[q]?) := Lib.hid fun q hq hl => (hk4 q hq (Nat.lt_of_lt_of_le hl HB18.out.size)).trans (HB18.out.block q hl)
                have HZ4 := Lib.hid (And.intro hz4 (And.intro x0 (And.intro x1 y)))
                clear hs4 hk4 hz4 x0 x1 y hcase' HRS
                go_upto_region 25 with fail
                have HQ20 : Hid (PlQ w p gp lb T t a ln cp a' c' tv' x12 x13 x14 gh n x17 x18 (fun q => J3 q ∨ (x20 ≤ q ∧ q < w17.heap.size)) Q2 S3 D3 G8 (L2.said t.own) (M2.said t.own) vo13 vc13 v17 v18 (16 * j) ((w19.alloc (.cells #[.slice b0 N' d0] 63)).alloc (.cells #[.slice b1 N' d1] 63)) ∧ Below w19.heap.size w19 ((w19.alloc (.cells #[.slice b0 N' d0] 63)).alloc (.cells #[.slice b1 N' d1] 63)) ∧
                    Blk ((w19.alloc (.cells #[.slice b0 N' d0] 63)).alloc (.cells #[.slice b1 N' d1] 63)) w19.heap.size 63 #[.slice b0 N' d0] ∧ Blk ((w19.alloc (.cells #[.slice b0 N' d0] 63)).alloc (.cells #[.slice b1 N' d1] 63)) (w19.heap.size + 1) 63 #[.slice b1 N' d1]) := Lib.hid (by
                  have hb : Below w19.heap.size w19 ((w19.alloc (.cells #[.slice b0 N' d0] 63)).alloc (.cells #[.slice b1 N' d1] 63)) := ((Below.refl _ _).alloc (Nat.le_refl _) _).alloc (by simp) _
                  exact ⟨HQ19.out.below hb, hb, (Blk.new _ _ _).alloc _, new1 w19 _ [.slice b1 N' d1] _⟩)
                generalize ((w19.alloc (.cells #[.slice b0 N' d0] 63)).alloc (.cells #[.slice b1 N' d1] 63)) = w20 at HQ20 ⊢
                have HN0 : Hid ((N' = 0 ∨ v17 = .slice none 0 0) ∧ (N' = 0 ∨ v18 = .slice none 0 0)) := Lib.hid (by
                  rcases HCS.out with ⟨-, -, -, h1, h2⟩ | ⟨h1, h2, -⟩
                  · exact ⟨.inr h1, .inr h2⟩
                  · have hb : L2.b = false := by rw [h2]; unfold LaneM.said; rw [if_pos HLK1.out.2.2.2.2.1]
                    rcases HR01.out.2.2 with ⟨h3, -⟩ | ⟨-, h3, -⟩
                    · rw [hb] at h3; cases h3
                    · exact ⟨.inl h3, .inl h3⟩)
                have HBK : Hid (∀ q, (J3 q ∨ (x20 ≤ q ∧ q < w17.heap.size)) → q < w17.heap.size → w20.heap[q]? = w17.heap[q]?) := Lib.hid fun q hq hl => (HQ20.out.2.1.block q (Nat.lt_of_lt_of_le hl (Nat.le_trans HB18.out.size HZ4.out.1))).trans (HB19.out q hq hl)
                have HS0 : Hid (SayR J3 wx.heap.size w20 N' a0 l0' cs0 ∧ SayR J3 wx.heap.size w20 N' a1 l1' cs1) := Lib.hid (by
                  have hs : w16.heap.size ≤ w20.heap.size := Nat.le_trans HQ17.out.2.1.size (Nat.le_trans HB18.out.size (Nat.le_trans HZ4.out.1 HQ20.out.2.1.size))
                  have hk : ∀ b, J3 b → wx.heap.size ≤ b → b < w16.heap.size → w20.heap[b]? = w16.heap[b]? := fun b hb _ hl => (HBK.out b (.inl hb) (Nat.lt_of_lt_of_le hl HQ17.out.2.1.size)).trans (HQ17.out.2.1.block b (by rw [HW16.out]; exact hl))
                  exact ⟨HR01.out.1.keep hs hk, HR01.out.2.1.keep hs hk⟩)
                have HK20 : Hid (Blk w20 x20 34 #[.slice a0 N' N'] ∧ Blk w20 (x20 + 1) 34 #[.slice a1 N' N']) := Lib.hid (by
                  obtain ⟨q1, q2⟩ := HX20.out
                  exact ⟨(HBK.out x20 (.inr ⟨Nat.le_refl _, by omega⟩) (by omega)).trans HQ17.out.2.2.1, (HBK.out (x20 + 1) (.inr ⟨by omega, q1⟩) q1).trans HQ17.out.2.2.2⟩)
                have HRD : Hid (RdRs (fun _ => True) w20 b0 N' l0' ∧ RdRs (fun _ => True) w20 b1 N' l1') := Lib.hid ⟨HZ4.out.2.1.below' HQ20.out.2.1, HZ4.out.2.2.1.below' HQ20.out.2.1⟩
                have HSM1 : Hid (∀ w', Below w20.heap.size w20 w' → Calls Try.prog 13 #[.slice a0 N' N', .slice b0 N' d0] w' fun e w'' => e = .returned (.bool true) ∧ Below w'.heap.size w' w'') := Lib.hid fun w' hb =>
                  sameAll_refl _ _ a0 b0 N' N' d0 l0' w' (HS0.out.1.2.2.1.below' hb) (Nat.le_refl _) (by unfold maxLen; omega) (HRD.out.1.below' hb) HZ4.out.2.2.2.1 HZ4.out.2.2.2.2.1 (fun r hr => by have := (HS0.out.1.2.1 r hr).2; omega)
                have HSM2 : Hid (∀ w', Below w20.heap.size w20 w' → Calls Try.prog 13 #[.slice a1 N' N', .slice b1 N' d1] w' fun e w'' => e = .returned (.bool true) ∧ Below w'.heap.size w' w'') := Lib.hid fun w' hb =>
                  sameAll_refl _ _ a1 b1 N' N' d1 l1' w' (HS0.out.2.2.2.1.below' hb) (Nat.le_refl _) (by unfold maxLen; omega) (HRD.out.2.below' hb) HZ4.out.2.2.2.2.2.1 HZ4.out.2.2.2.2.2.2 (fun r hr => by have := (HS0.out.2.2.1 r hr).2; omega)
                have FC : Hid (∀ w', Below w20.heap.size w20 w' → w'.cell? ⟨x20, 0, none⟩ = some (.slice a0 N' N') ∧ w'.cell? ⟨x20 + 1, 0, none⟩ = some (.slice a1 N' N') ∧ w'.cell? ⟨w19.heap.size, 0, none⟩ = some (.slice b0 N' d0) ∧ w'.cell? ⟨w19.heap.size + 1, 0, none⟩ = some (.slice b1 N' d1)) := Lib.hid fun w' hb => by
                  exact ⟨(HK20.out.1.below hb HK20.out.1.lt).cell 0, (HK20.out.2.below hb HK20.out.2.lt).cell 0, (HQ20.out.2.2.1.below hb HQ20.out.2.2.1.lt).cell 0, (HQ20.out.2.2.2.below hb HQ20.out.2.2.2.lt).cell 0⟩
                obtain ⟨e1, e2, e3, e4⟩ := FC.out w20 (Below.refl _ _)
                go_wp2_with fail
                (with_reducible refine (HSM1.out w20 (Below.refl _ _)).mono ?_)
                rintro e w21 ⟨rfl, hb21⟩
                have HB21 := Lib.hid hb21
                clear e1 e2 e3 e4 hb21
                obtain ⟨e1, e2, e3, e4⟩ := FC.out w21 HB21.out
                go_wp2_with fail
                (with_reducible refine (HSM2.out w21 HB21.out).mono ?_)
                rintro e w22 ⟨rfl, hb22⟩
                have HB22 := Lib.hid (HB21.out.trans (hb22.mono HB21.out.size))
                clear e1 e2 e3 e4 hb22
                obtain ⟨e1, e2, e3, e4⟩ := FC.out w22 HB22.out
                clear e3 e4 HSM1 HSM2
                have HQ22 := Lib.hid (HQ20.out.1.below HB22.out)
                have HSR := Lib.hid (And.intro (HS0.out.1.keep HB22.out.size fun b _ _ hl => HB22.out.block b hl) (HS0.out.2.keep HB22.out.size fun b _ _ hl => HB22.out.block b hl))
                have c17 := HQ22.out.b17.cell 0
                simp at c17
                have hj2 : 16 * j + N' ≤ 1000000000 := by omega
                clear e2
                go_upto_region 28 with (at_builtin; refine wpList_appN app_row (by rfl) (.tmp 146) (.tmp 148) (by rfl) (by rfl) HQ22.out.c17 (by rfl) HSR.out.1 HN0.out.1 hj2 ?_; intro v' w23 hb23 hc23 hx23; have HC23 := Lib.hid (And.intro hc23 hb23); obtain ⟨aa, mm, cc, rfl, -, -, -⟩ := hc23.sp; have k17 := HQ22.out.b17.below hb23 HQ22.out.b17.lt; have z17 := k17.frozen 0; have c17' := k17.cell 0; simp at c17'; clear hb23 hc23 hx23 k17)
                have HZX : Hid (wx.heap.size ≤ w22.heap.size ∧ x17 < wx.heap.size ∧ x18 < wx.heap.size) := Lib.hid ⟨Nat.le_trans HZ3.out (Nat.le_trans HQ17.out.2.1.size (Nat.le_trans HB18.out.size (Nat.le_trans HZ4.out.1 (Nat.le_trans HQ20.out.2.1.size HB22.out.size)))), HQ.out.b17.lt, HQ.out.b18.lt⟩
                have HQ24 : Hid (PlQ w p gp lb T t a ln cp a' c' tv' x12 x13 x14 gh n x17 x18 (fun q => (J3 q ∨ (x20 ≤ q ∧ q < w17.heap.size)) ∨ (w22.heap.size ≤ q ∧ q < w23.heap.size)) (fun q => Q2 q ∨ (wx.heap.size ≤ q ∧ J3 q) ∨ (w22.heap.size ≤ q ∧ q < w23.heap.size)) S3 D3 G8 (L2.said t.own) (M2.said t.own) vo13 vc13 (.slice aa mm cc) v18 (16 * (j + 1)) (w23.setCell ⟨x17, 0, none⟩ (.slice aa mm cc))) := Lib.hid (((HQ22.out.grow HC23.out.2).more (Q' := (fun q => Q2 q ∨ (wx.heap.size ≤ q ∧ J3 q) ∨ (w22.heap.size ≤ q ∧ q < w23.heap.size))) (bd' := 16 * (j + 1)) (fun b hb => .inl hb) (fun b hb => by
                  obtain ⟨z1, z2, z3⟩ := HZX.out
                  rcases hb with hb | hb | hb
                  · obtain ⟨q1, q2⟩ := HQ22.out.q b hb
                    exact ⟨.inl q1, q2⟩
                  · exact ⟨.inl (.inl hb.2), by omega, by omega⟩
                  · exact ⟨.inr hb, by omega, by omega⟩) (by omega)).put17 (HC23.out.1.mono (fun _ h => h) (by omega)))
                have HK24 : Hid (∀ q, q ≠ x17 → q < w22.heap.size → (w23.setCell ⟨x17, 0, none⟩ (.slice aa mm cc)).heap[q]? = w22.heap[q]?) := Lib.hid fun q hq hl => (Below.heap_setCell w23 ⟨x17, 0, none⟩ _ q hq).trans (HC23.out.2.block q hl)
                have HS24 : Hid (w22.heap.size ≤ (w23.setCell ⟨x17, 0, none⟩ (.slice aa mm cc)).heap.size) := Lib.hid (by simpa using HC23.out.2.size)
                have HSR2 : Hid (SayR J3 wx.heap.size (w23.setCell ⟨x17, 0, none⟩ (.slice aa mm cc)) N' a1 l1' cs1) := Lib.hid (HSR.out.2.keep HS24.out fun b _ hb hl => HK24.out b (by have := HZX.out; omega) hl)
                have HC18 : Hid (CwV Q2 (w23.setCell ⟨x17, 0, none⟩ (.slice aa mm cc)) v18 (16 * j)) := Lib.hid (HQ22.out.c18.keep HS24.out fun b hb hl => HK24.out b (HQ22.out.q b hb).2.1 hl)
                have HK21 : Hid (Blk (w23.setCell ⟨x17, 0, none⟩ (.slice aa mm cc)) (x20 + 1) 34 #[.slice a1 N' N']) := Lib.hid (by
                  have h1 := HK20.out.2.below HB22.out HK20.out.2.lt
                  exact (HK24.out (x20 + 1) (by have := HZX.out; have := HX20.out; omega) h1.lt).trans h1)
                generalize (w23.setCell ⟨x17, 0, none⟩ (.slice aa mm cc)) = w24 at HQ24 HK24 HS24 HSR2 HC18 HK21 ⊢
                clear c17 z17 c17' e1
                have c18 := HQ24.out.b18.cell 0
                have e2 := HK21.out.cell 0
                simp at c18 e2
                go_wp2_with (at_builtin; refine wpList_appN app_row (by rfl) (.tmp 152) (.tmp 154) (by rfl) (by rfl) HC18.out (by rfl) HSR2.out HN0.out.2 hj2 ?_; intro v' w25 hb25 hc25 hx25; have HC25 := Lib.hid (And.intro hc25 hb25); obtain ⟨ab, mb, cb, rfl, -, -, -⟩ := hc25.sp; have k18 := HQ24.out.b18.below hb25 HQ24.out.b18.lt; have z18 := k18.frozen 0; have c18' := k18.cell 0; simp at c18'; clear hb25 hc25 hx25 k18; have HQ26 := Lib.hid (plq_end HQ24.out HC25.out.2 (HC25.out.1.mono (Q' := fun q => (fun q => Q2 q ∨ (wx.heap.size ≤ q ∧ J3 q) ∨ (w22.heap.size ≤ q ∧ q < w23.heap.size)) q ∨ (w24.heap.size ≤ q ∧ q < w25.heap.size)) (fun b hb => hb.elim (fun h => .inl (.inl h)) fun h => h.elim (fun h => .inl (.inr (.inl h))) .inr) (show 16 * j + N' ≤ 16 * (j + 1) by omega))))
                have HLE : Hid ((L2.said t.own) = L1.said t.own ∧ (M2.said t.own) = M1.said t.own) := Lib.hid (by
                  rcases HCS.out with ⟨-, rfl, rfl, -⟩ | ⟨-, rfl, rfl⟩
                  · exact ⟨rfl, rfl⟩
                  · have h1 : (L1.said t.own).b = false := by unfold LaneM.said; rw [if_pos HLK1.out.2.2.2.2.1]
                    have h2 : (M1.said t.own).b = false := by unfold RfM.said; rw [if_pos HLK1.out.2.2.2.2.2.2.2]
                    exact ⟨by rw [LaneM.said, if_neg (by rw [h1]; decide)], by rw [RfM.said, if_neg (by rw [h2]; decide)]⟩)
                exact ⟨⟨j + 1, _, _, _, _, _, _, _, _, by omega, by go_num, HQ26.out, .inr ⟨by omega, HLE.out⟩⟩, by simp [intOf]; omega⟩
                --]A
              · have hjs' : ¬ (j : Int) < sm := by omega
                obtain rfl : j = sm := by omega
                obtain ⟨ov2, hov2⟩ : ∃ ov2, ov2 = t.own.vals tv := ⟨_, rfl⟩
                have hvl2 : ov2.length = 57 := by rw [hov2]; exact Rw.len hro _
                have HOV2 := Lib.hid hov2
                clear hov2
                have FS9 : Hid (∀ w', Below wx.heap.size wx w' → ((w'.cell? ⟨x12, 0, none⟩ = some (.slice (a 0) (ln 0) (cp 0)) ∧ w'.cell? ⟨x12, 1, none⟩ = some (.slice (a 1) (ln 1) (cp 1)) ∧ w'.cell? ⟨x12, 2, none⟩ = some (.slice (a 2) (ln 2) (cp 2)) ∧ w'.cell? ⟨x12, 3, none⟩ = some (.slice (a 3) (ln 3) (cp 3))) ∧ (w'.cell? ⟨x13, 0, none⟩ = some (.slice (a' 0) (ln 0) (c' 0)) ∧ w'.cell? ⟨x13, 1, none⟩ = some (.slice (a' 1) (ln 1) (c' 1)) ∧ w'.cell? ⟨x13, 2, none⟩ = some (.slice (a' 2) (ln 2) (c' 2)) ∧ w'.cell? ⟨x13, 3, none⟩ = some (.slice (a' 3) (ln 3) (c' 3))) ∧ hasRow w' ⟨x14, 0, none⟩ 57 = true ∧ rowOf w' ⟨x14, 0, none⟩ 57 = ov' ∧ hasRow w' ⟨b, off + k * 62 + 4, none⟩ 57 = true ∧ rowOf w' ⟨b, off + k * 62 + 4, none⟩ 57 = ov2)) := Lib.hid fun w' hb => by
                  have hi := HQ.out.i.below hb
                  have hat := HAT.out w' (HQ.out.s.below hb).bel
                  have hv := hi.b14
                  rw [← HOV'.out] at hv
                  obtain ⟨g1, g2, -⟩ := hv.whole hvl'
                  exact ⟨fs_x12 hi, fs_x13 hi, g1, g2, hat.r1, hat.r2.trans HOV2.out.symm⟩
                have FLW : Hid (∀ i, i < 4 → ∀ w', Below wx.heap.size wx w' → Calls Try.prog 17 #[.agg #[.slice (a' i) (ln i) (c' i)], .agg #[.slice (a i) (ln i) (cp i)]] w' fun e w'' => e = .returned (.bool true) ∧ Below w'.heap.size w' w'') := Lib.hid fun i hi w' hb => by
                  have hI := HQ.out.i.below hb
                  have hat := HAT.out w' (HQ.out.s.below hb).bel
                  obtain ⟨q1, q2, q3, -⟩ := hI.tw i hi
                  exact leftWord_any _ _ (a' i) (a i) (ln i) (c' i) (cp i) (t.w i) w' q1 q2 q3 (hat.rd i hi) (hat.le i hi).1 (hat.le i hi).2 (smallW_le (HSZ.out.1 i hi)).2
                have FL0 := Lib.hid (FLW.out 0 (by omega))
                have FL1 := Lib.hid (FLW.out 1 (by omega))
                have FL2 := Lib.hid (FLW.out 2 (by omega))
                have FL3 := Lib.hid (FLW.out 3 (by omega))
                have FLO : Hid (∀ w', Below wx.heap.size wx w' → Calls Try.prog 18 #[.agg ov'.toArray, .agg ov2.toArray] w' fun e w'' => e = .returned (.bool true) ∧ Below w'.heap.size w' w'') := Lib.hid fun w' hb => by
                  have hI := HQ.out.i.below hb
                  have hat := HAT.out w' (HQ.out.s.below hb).bel
                  rw [HOV'.out, HOV2.out]
                  exact left_any _ _ t.own hro tv' tv w' hI.ow hat.rt (by have := HSZ.out.2; omega)
                clear FLW
                go_upto_region 29 with fail
                clear hat5
                go_cut [196] from 157 to 196 (fun s196 wy => s196 = .bool false ∧ ∃ wc : World, wc = wy ∧ Below wx.heap.size wx wc)
                case first =>
                  --[D
                  go_region_held3 (fun w' => ((w'.cell? ⟨x12, 0, none⟩ = some (.slice (a 0) (ln 0) (cp 0)) ∧ w'.cell? ⟨x12, 1, none⟩ = some (.slice (a 1) (ln 1) (cp 1)) ∧ w'.cell? ⟨x12, 2, none⟩ = some (.slice (a 2) (ln 2) (cp 2)) ∧ w'.cell? ⟨x12, 3, none⟩ = some (.slice (a 3) (ln 3) (cp 3))) ∧ (w'.cell? ⟨x13, 0, none⟩ = some (.slice (a' 0) (ln 0) (c' 0)) ∧ w'.cell? ⟨x13, 1, none⟩ = some (.slice (a' 1) (ln 1) (c' 1)) ∧ w'.cell? ⟨x13, 2, none⟩ = some (.slice (a' 2) (ln 2) (c' 2)) ∧ w'.cell? ⟨x13, 3, none⟩ = some (.slice (a' 3) (ln 3) (c' 3))) ∧ hasRow w' ⟨x14, 0, none⟩ 57 = true ∧ rowOf w' ⟨x14, 0, none⟩ 57 = ov' ∧ hasRow w' ⟨b, off + k * 62 + 4, none⟩ 57 = true ∧ rowOf w' ⟨b, off + k * 62 + 4, none⟩ 57 = ov2))
                    (((with_reducible refine FS9.out _ ?_); (with_reducible first | exact (Below.refl _ _).drew | exact H31.out | exact H32.out | exact H33.out | exact H34.out | exact H35.out)))
                    ((first
                      | ((with_reducible refine (FLO.out w34 H34.out).mono ?_); rintro e w35 ⟨rfl, hb⟩; have H35 : Hid (Below wx.heap.size wx w35) := Lib.hid (H34.out.trans (hb.mono H34.out.size)); clear hb)
                      | ((with_reducible refine (FL3.out w33 H33.out).mono ?_); rintro e w34 ⟨rfl, hb⟩; have H34 : Hid (Below wx.heap.size wx w34) := Lib.hid (H33.out.trans (hb.mono H33.out.size)); clear hb)
                      | ((with_reducible refine (FL2.out w32 H32.out).mono ?_); rintro e w33 ⟨rfl, hb⟩; have H33 : Hid (Below wx.heap.size wx w33) := Lib.hid (H32.out.trans (hb.mono H32.out.size)); clear hb)
                      | ((with_reducible refine (FL1.out w31 H31.out).mono ?_); rintro e w32 ⟨rfl, hb⟩; have H32 : Hid (Below wx.heap.size wx w32) := Lib.hid (H31.out.trans (hb.mono H31.out.size)); clear hb)
                      | ((with_reducible refine (FL0.out (wx.drew) (Below.refl _ _).drew).mono ?_); rintro e w31 ⟨rfl, hb⟩; have H31 : Hid (Below wx.heap.size wx w31) := Lib.hid ((Below.refl wx.heap.size wx).drew.trans hb); clear hb)))
                  go_wp2_with fail
                  go_meet
                  exact ⟨rfl, _, rfl, H35.out⟩
                  --]D
                case rest =>
                obtain ⟨rfl, wc, rfl, hbc⟩ := hcut
                obtain ⟨w35, rfl⟩ : ∃ w35, w35 = wc := ⟨_, rfl⟩
                have H35 := Lib.hid hbc
                clear hbc
                clear FL0 FL1 FL2 FL3 FLO
                have HQ35 := Lib.hid (HQ.out.below H35.out)
                obtain ⟨aa, mm, cc, rfl, hm1', hm2', hsp17⟩ := HQ35.out.c17.sp
                obtain ⟨ab, mb, cb, rfl, hm3', hm4', hsp18⟩ := HQ35.out.c18.sp
                have HSP := Lib.hid (And.intro (And.intro hm1' (And.intro hm2' hsp17)) (And.intro hm3' (And.intro hm4' hsp18)))
                clear hm1' hm2' hsp17 hm3' hm4' hsp18
                obtain ⟨-, ⟨e0, e1, e2, e3⟩, g1, g2, -, -⟩ := FS9.out w35 H35.out
                have c17 := HQ35.out.b17.cell 0
                have c18 := HQ35.out.b18.cell 0
                simp at c17 c18
                go_upto_region 32 with fail
                have HS36 : Hid (∃ (SL : List (Option Addr × Nat × Nat)) (QQ J3 : Nat → Prop), SL.length = 8 ∧ SpI QQ SL ((w35.alloc (.cells ov'.toArray 54)).alloc (.cells #[.slice (a' 0) (ln 0) (c' 0), .slice (a' 1) (ln 1) (c' 1), .slice (a' 2) (ln 2) (c' 2), .slice (a' 3) (ln 3) (c' 3), .slice aa mm cc, .slice ab mb cb, .slice (some ⟨gh, 0, none⟩) n n, .slice (some ⟨w35.heap.size, 0, none⟩) 1 1] 32)) ((w35.alloc (.cells ov'.toArray 54)).alloc (.cells #[.slice (a' 0) (ln 0) (c' 0), .slice (a' 1) (ln 1) (c' 1), .slice (a' 2) (ln 2) (c' 2), .slice (a' 3) (ln 3) (c' 3), .slice aa mm cc, .slice ab mb cb, .slice (some ⟨gh, 0, none⟩) n n, .slice (some ⟨w35.heap.size, 0, none⟩) 1 1] 32)) ∧ Blk ((w35.alloc (.cells ov'.toArray 54)).alloc (.cells #[.slice (a' 0) (ln 0) (c' 0), .slice (a' 1) (ln 1) (c' 1), .slice (a' 2) (ln 2) (c' 2), .slice (a' 3) (ln 3) (c' 3), .slice aa mm cc, .slice ab mb cb, .slice (some ⟨gh, 0, none⟩) n n, .slice (some ⟨w35.heap.size, 0, none⟩) 1 1] 32)) (w35.heap.size + 1) 32 (SL.map SlV).toArray ∧ PlS w p gp lb J3 S2 D2 G8 L2 M2 vo13 vc13 ((w35.alloc (.cells ov'.toArray 54)).alloc (.cells #[.slice (a' 0) (ln 0) (c' 0), .slice (a' 1) (ln 1) (c' 1), .slice (a' 2) (ln 2) (c' 2), .slice (a' 3) (ln 3) (c' 3), .slice aa mm cc, .slice ab mb cb, .slice (some ⟨gh, 0, none⟩) n n, .slice (some ⟨w35.heap.size, 0, none⟩) 1 1] 32)) ∧ (∀ q, QQ q → J3 q ∧ q ≠ w35.heap.size + 1) ∧ (∀ s ∈ SL, s.2.1 ≤ s.2.2 ∧ s.2.2 ≤ maxLen)) := Lib.hid (by
                  have hb1 : Below w35.heap.size w35 (w35.alloc (.cells ov'.toArray 54)) := (Below.refl _ _).alloc (Nat.le_refl _) _
                  have hb2 : Below w35.heap.size w35 ((w35.alloc (.cells ov'.toArray 54)).alloc (.cells #[.slice (a' 0) (ln 0) (c' 0), .slice (a' 1) (ln 1) (c' 1), .slice (a' 2) (ln 2) (c' 2), .slice (a' 3) (ln 3) (c' 3), .slice aa mm cc, .slice ab mb cb, .slice (some ⟨gh, 0, none⟩) n n, .slice (some ⟨w35.heap.size, 0, none⟩) 1 1] 32)) := hb1.alloc (by simp) _
                  have hs : ((w35.alloc (.cells ov'.toArray 54)).alloc (.cells #[.slice (a' 0) (ln 0) (c' 0), .slice (a' 1) (ln 1) (c' 1), .slice (a' 2) (ln 2) (c' 2), .slice (a' 3) (ln 3) (c' 3), .slice aa mm cc, .slice ab mb cb, .slice (some ⟨gh, 0, none⟩) n n, .slice (some ⟨w35.heap.size, 0, none⟩) 1 1] 32)).heap.size = w35.heap.size + 2 := by simp
                  have k1 : Blk ((w35.alloc (.cells ov'.toArray 54)).alloc (.cells #[.slice (a' 0) (ln 0) (c' 0), .slice (a' 1) (ln 1) (c' 1), .slice (a' 2) (ln 2) (c' 2), .slice (a' 3) (ln 3) (c' 3), .slice aa mm cc, .slice ab mb cb, .slice (some ⟨gh, 0, none⟩) n n, .slice (some ⟨w35.heap.size, 0, none⟩) 1 1] 32)) w35.heap.size 54 ov'.toArray := (Blk.new w35 _ _).alloc _
                  have k2 : Blk ((w35.alloc (.cells ov'.toArray 54)).alloc (.cells #[.slice (a' 0) (ln 0) (c' 0), .slice (a' 1) (ln 1) (c' 1), .slice (a' 2) (ln 2) (c' 2), .slice (a' 3) (ln 3) (c' 3), .slice aa mm cc, .slice ab mb cb, .slice (some ⟨gh, 0, none⟩) n n, .slice (some ⟨w35.heap.size, 0, none⟩) 1 1] 32)) (w35.heap.size + 1) 32 ([(a' 0, ln 0, c' 0), (a' 1, ln 1, c' 1), (a' 2, ln 2, c' 2), (a' 3, ln 3, c' 3), (aa, mm, cc), (ab, mb, cb), (some ⟨gh, 0, none⟩, n, n), (some ⟨w35.heap.size, 0, none⟩, 1, 1)].map SlV).toArray := new1 w35 _ ([(a' 0, ln 0, c' 0), (a' 1, ln 1, c' 1), (a' 2, ln 2, c' 2), (a' 3, ln 3, c' 3), (aa, mm, cc), (ab, mb, cb), (some ⟨gh, 0, none⟩, n, n), (some ⟨w35.heap.size, 0, none⟩, 1, 1)].map SlV) _
                  have hQ36 := HQ35.out.grow hb2
                  rw [HOV'.out] at k1 hQ36 hb2 hs k2 ⊢
                  have hQs : ∀ q, (Q2 q ∨ q = w35.heap.size) → (J2 q ∨ (w35.heap.size ≤ q ∧ q < w35.heap.size + 2)) ∧ q ≠ w35.heap.size + 1 := fun q hq => by
                    rcases hq with hq | hq
                    · have h1 := HQ35.out.q q hq
                      have h2 := (HQ35.out.s.nj q h1.1).1
                      exact ⟨.inl h1.1, by omega⟩
                    · exact ⟨.inr (by omega), by omega⟩
                  refine ⟨[(a' 0, ln 0, c' 0), (a' 1, ln 1, c' 1), (a' 2, ln 2, c' 2), (a' 3, ln 3, c' 3), (aa, mm, cc), (ab, mb, cb), (some ⟨gh, 0, none⟩, n, n), (some ⟨w35.heap.size, 0, none⟩, 1, 1)], fun q => Q2 q ∨ q = w35.heap.size, _, rfl, ⟨Chg.refl _ _, fun s hm => ?_⟩, k2, hQ36.s, fun q hq => ?_, fun s hm => ?_⟩
                  · simp only [List.mem_cons, List.not_mem_nil, or_false] at hm
                    rcases hm with rfl | rfl | rfl | rfl | rfl | rfl | rfl | rfl
                    · exact (hQ36.i.tw 0 (by omega)).2.2.2.mono fun b _ hb => .inl (HQ35.out.tq b hb)
                    · exact (hQ36.i.tw 1 (by omega)).2.2.2.mono fun b _ hb => .inl (HQ35.out.tq b hb)
                    · exact (hQ36.i.tw 2 (by omega)).2.2.2.mono fun b _ hb => .inl (HQ35.out.tq b hb)
                    · exact (hQ36.i.tw 3 (by omega)).2.2.2.mono fun b _ hb => .inl (HQ35.out.tq b hb)
                    · exact (HSP.out.1.2.2.below hb2).mono fun b _ hb => .inl hb
                    · exact (HSP.out.2.2.2.below hb2).mono fun b _ hb => .inl hb
                    · exact hQ36.h.mono fun b _ hb => .inl hb
                    · exact sp_own k1 hro hQ36.i.ow (fun b hb => .inl (HQ35.out.tq b hb)) (.inr rfl)
                  · have h1 := hQs q hq
                    rw [hs]
                    exact h1
                  · simp only [List.mem_cons, List.not_mem_nil, or_false] at hm
                    rcases hm with rfl | rfl | rfl | rfl | rfl | rfl | rfl | rfl
                    · exact ⟨(hQ36.i.tw 0 (by omega)).2.1, (hQ36.i.tw 0 (by omega)).2.2.1⟩
                    · exact ⟨(hQ36.i.tw 1 (by omega)).2.1, (hQ36.i.tw 1 (by omega)).2.2.1⟩
                    · exact ⟨(hQ36.i.tw 2 (by omega)).2.1, (hQ36.i.tw 2 (by omega)).2.2.1⟩
                    · exact ⟨(hQ36.i.tw 3 (by omega)).2.1, (hQ36.i.tw 3 (by omega)).2.2.1⟩
                    · exact ⟨HSP.out.1.1, HSP.out.1.2.1⟩
                    · exact ⟨HSP.out.2.1, HSP.out.2.2.1⟩
                    · exact ⟨Nat.le_refl _, by show n ≤ maxLen; unfold maxLen; omega⟩
                    · exact ⟨Nat.le_refl _, by show 1 ≤ maxLen; unfold maxLen; omega⟩)
                generalize ((w35.alloc (.cells ov'.toArray 54)).alloc (.cells #[.slice (a' 0) (ln 0) (c' 0), .slice (a' 1) (ln 1) (c' 1), .slice (a' 2) (ln 2) (c' 2), .slice (a' 3) (ln 3) (c' 3), .slice aa mm cc, .slice ab mb cb, .slice (some ⟨gh, 0, none⟩) n n, .slice (some ⟨w35.heap.size, 0, none⟩) 1 1] 32)) = w36 at HS36 ⊢
                obtain ⟨y2, hy2⟩ : ∃ y2, y2 = w35.heap.size + 1 := ⟨_, rfl⟩
                rw [← hy2] at HS36
                rw [← hy2]
                clear hy2 c17 c18 e0 e1 e2 e3 g1 g2 HSP
                obtain ⟨SL, QQ, J3, hl8, hs36, hb36, hp36, hq36, hm36⟩ := HS36.out
                have HI36 := Lib.hid hs36
                have HB36 := Lib.hid (And.intro hb36 (And.intro hp36 (And.intro hq36 hm36)))
                have FY : Hid (∀ (wr : World) (k8 : Nat) (s : Option Addr × Nat × Nat), SpI QQ SL w36 wr → SL[k8]? = some s → wr.cell? ⟨y2, k8, none⟩ = some (.slice s.1 s.2.1 s.2.2)) := Lib.hid fun wr k8 s h hs => sl_cell (HB36.out.1.chg h.c fun hq => (HB36.out.2.2.1 y2 hq).2 rfl) hs
                have HL8 := Lib.hid hl8
                clear HS36 hs36 hb36 hp36 hq36 hm36 hl8
                go_wp2_with fail
                go_loopw [25] (fun s25 wr => ∃ k8 : Nat, k8 ≤ 8 ∧ s25 = .int .i64 k8 ∧ SpI QQ SL w36 wr) (fun i _ => 8 - (intOf i).toNat)
                case atStart => exact ⟨0, by omega, rfl, HI36.out⟩
                case round =>
                  obtain ⟨k8, hk8, rfl, hsi⟩ := hrel
                  obtain ⟨wy, rfl⟩ : ∃ wy, wy = wr := ⟨_, rfl⟩
                  have HSI := Lib.hid hsi
                  clear hsi
                  by_cases hk8' : k8 < 8
                  · obtain ⟨⟨sa, sn, sc⟩, hs8⟩ : ∃ s, SL[k8]? = some s := ⟨_, List.getElem?_eq_getElem (by rw [HL8.out]; exact hk8')⟩
                    have HS8 := Lib.hid hs8
                    have hk8i : (k8 : Int) < 8 := by omega
                    have hk80 : (0 : Int) ≤ k8 := by omega
                    have hsn : sn ≤ sc := (HB36.out.2.2.2 _ (List.mem_of_getElem? hs8)).1
                    have hsc : sc ≤ maxLen := (HB36.out.2.2.2 _ (List.mem_of_getElem? hs8)).2
                    unfold maxLen at hsc
                    clear hs8
                    go_wp2_with fail
                    go_loopw [26] (fun s26 wr => ∃ j8 : Nat, j8 ≤ sn ∧ s26 = .int .i64 j8 ∧ SpI QQ SL w36 wr) (fun i _ => sn - (intOf i).toNat)
                    case atStart => exact ⟨0, by omega, rfl, HSI.out⟩
                    case round =>
                      obtain ⟨j8, hj8, rfl, hsi⟩ := hrel
                      obtain ⟨wz, rfl⟩ : ∃ wz, wz = wr := ⟨_, rfl⟩
                      have HSJ := Lib.hid hsi
                      have c8 := FY.out wz k8 _ hsi HS8.out
                      simp only at c8
                      clear hsi
                      by_cases hj8' : j8 < sn
                      · have hj8i : (j8 : Int) < sn := by omega
                        have hj80 : (0 : Int) ≤ j8 := by omega
                        obtain ⟨g, cur, r9, tv9, hsa, hQg, hgl, hgc, hin, hrok, hsh, hroom, x1, x2, x3⟩ := (HSJ.out.sp _ (List.mem_of_getElem? HS8.out)).at_ hj8'
                        simp only at hsa
                        subst hsa
                        have HSPO := Lib.hid (spoil_any QQ r9 hrok tv9 wz hsh hroom)
                        obtain ⟨rv9, hrv9⟩ : ∃ rv9, rv9 = r9.vals tv9 := ⟨_, rfl⟩
                        rw [← hrv9] at x2 HSPO
                        have hvl9 : rv9.length = 57 := by rw [hrv9]; exact Rw.len hrok _
                        have HQG := Lib.hid hQg
                        clear hrv9 hroom hsh hgc hin x3 hQg
                        go_wp2_with fail
                        (with_reducible refine HSPO.out.mono ?_)
                        rintro e w9 ⟨⟨v9, rfl⟩, hs9⟩
                        have HS9 := Lib.hid (HSJ.out.spoil hs9)
                        have c9 := FY.out w9 k8 _ HS9.out HS8.out
                        simp only at c9
                        obtain ⟨g', cur', r9', tv9', hsa', -, -, hgc', hin', -, -, -, -, -, x3'⟩ := (HS9.out.sp _ (List.mem_of_getElem? HS8.out)).at_ hj8'
                        have hgg : g = g' := by simpa using hsa'
                        subst hgg
                        have HZ9 := Lib.hid (HS9.out.zero HQG.out hgc' hin')
                        clear hs9 hgc' hin' hsa' x1 x2 c8 HSPO
                        go_wp2_with fail
                        exact ⟨⟨j8 + 1, by omega, by go_num, HZ9.out⟩, by simp [intOf]; omega⟩
                      · have hj8i : ¬ (j8 : Int) < sn := by omega
                        go_wp2_with fail
                        exact ⟨⟨k8 + 1, by omega, by go_num, HSJ.out⟩, by simp [intOf]; omega⟩
                  · have hk8i : ¬ (k8 : Int) < 8 := by omega
                    have HFIN : Hid (PlS w p gp lb (fun _ => False) S2 D2 G8 L2 M2 vo13 vc13 wy) := Lib.hid (((HB36.out.2.1.jmono fun b hb => (HB36.out.2.2.1 b hb).1).chg HSI.out.c).jmono fun b hb => hb.elim)
                    have HME : Hid (L2.me = me) := Lib.hid (by
                      rcases HCS.out with ⟨-, rfl, -⟩ | ⟨-, rfl, -⟩
                      · exact HLK1.out.2.2.1
                      · rw [← HLK1.out.2.2.1]; unfold LaneM.said; split <;> rfl)
                    go_wp2_with fail
                    exact ⟨⟨k + 1, S2, D2, G8, L2, M2, vo13, vc13, by omega, by go_num, HFIN.out, HLK2.out.1, HLK2.out.2.2.2.1, HME.out, HLK2.out.2.1⟩, by simp [intOf]; omega⟩
        · --[C
          have hlt' : ¬ (k : Int) < len := by omega
          have HL := Lib.hid (lives14_any wq)
          have HBW := Lib.hid HP.out.bel
          go_wp2_with fail
          (with_reducible refine HL.out.mono ?_)
          rintro e w9 ⟨rfl, hb9⟩
          have HE := Lib.hid (HBW.out.trans (hb9.mono HBW.out.size))
          clear hb9
          go_wp2_with fail
          go_ret
          exact ⟨rfl, HE.out⟩
          --]C
    · have hv' : n < 4 ∨ 16 < n ∨ me < 0 ∨ n ≤ me := by omega
      have HN := Lib.hid (new_bad n me hv')
      have HN2 := Lib.hid (rnew_bad n me hv')
      go_wp2_with fail
      (with_reducible refine (HN.out _).mono ?_)
      rintro e w2 ⟨rfl, rfl⟩
      go_wp2_with fail
      (with_reducible refine (HN2.out _).mono ?_)
      rintro e w2 ⟨rfl, rfl⟩
      have HL := Lib.hid (lives14_any w1)
      go_wp2_with fail
      (with_reducible refine HL.out.mono ?_)
      rintro e w9 ⟨rfl, hb9⟩
      have HE := Lib.hid (HB1.out.trans (hb9.mono HB1.out.size))
      clear hb9
      go_wp2_with fail
      go_ret
      exact ⟨rfl, HE.out⟩
end Go.Proofs.Ytopakilglnpinaa
