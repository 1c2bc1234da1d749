/-
  (*sennitlaw14.Ring).said, walked.
-/
import Derived.Test.YtbdklfcgcmdgaaaGb26
namespace Go.Proofs.Ytbdklfcgcmdgaaa
open Go.RowKit
set_option linter.unusedVariables false
set_option linter.unusedSimpArgs false

def CutOdd (od : Bool) (w0 : World) (s : Value) (wx : World) : Prop := s = .bool (!od) ∧ ∃ q, wx = w0.drewN q
theorem odd_eq (R : RingM) (i k m : Nat) (hm : R.F.at_ % R.N = m) (c : Nat) (hc : R.F.which % 4 = c) (n : Nat) (hn : R.F.acts.length = n) :
    R.odd i k = (decide (m = i) && (!R.F.link || decide (c = k)) && decide (0 < n)) := by
  unfold RingM.odd
  rw [hm, hc, ← hn]
  congr 1
  cases R.F.acts <;> simp
theorem Sd3.drewN {w : World} {u v : Value} {wx : World} (h : Sd3 w u v wx) (q : Nat) : Sd3 w u v (wx.drewN q) := ⟨h.b0.drewN q, h.b1.drewN q, h.b2.drewN q, h.sz, Below.drewN_ h.bel q⟩
theorem Sd3.put {w : World} {u v : Value} {wx : World} (h : Sd3 w u v wx) {g o : Nat} {l : List Value} (hg : w.heap.size + 1 + 1 < g) : Sd3 w u v (putRow wx ⟨g, o, none⟩ l) :=
  ⟨(putRow_other _ _ _ _ (by simp; omega)).trans h.b0, (putRow_other _ _ _ _ (by simp; omega)).trans h.b1, (putRow_other _ _ _ _ (by simp; omega)).trans h.b2, by rw [size_putRow]; exact h.sz, Below.put h.bel (p := ⟨g, o, none⟩) (by simp; omega) _⟩
theorem saidM_no {R : RingM} {i k : Nat} {W O : List Rw} (h : false = R.odd i k) : R.saidM i k W O = W := by unfold RingM.saidM; rw [← h]; rfl
theorem saidM_yes {R : RingM} {i k : Nat} {W O : List Rw} {x : ActM} (h : true = R.odd i k) (hx : R.F.acts[(R.sent.length * 4 + k) % R.F.acts.length]? = some x) :
    R.saidM i k W O = if x.kind % 6 = 1 then [] else if x.kind % 6 = 2 then W.set (x.s % R.N).toNat x.row else if x.kind % 6 = 3 then R.sentM (i + 2 * R.N) k (1 + (x.s % R.N).toNat) else if x.kind % 6 = 4 then O else if x.kind % 6 = 5 then W.set i x.row else W := by
  unfold RingM.saidM
  rw [← h, if_pos rfl, hx]
theorem odd_pos {R : RingM} {i k : Nat} (h : true = R.odd i k) : 0 < R.F.acts.length := by
  unfold RingM.odd at h
  rcases Nat.eq_zero_or_pos R.F.acts.length with h0 | h0
  · rw [List.eq_nil_of_length_eq_zero h0] at h; simp at h
  · exact h0
set_option maxRecDepth 100000 in
set_option maxHeartbeats 8000000 in
theorem ringSaid_any (S : Nat → Prop) (rg : Nat) (R : RingM) (sv u v : Value) (aa : Option Addr) (an ac : Nat) (i k : Nat) (W O : List Rw) (w : World)
    (h0 : w.cell? ⟨rg, 0, none⟩ = some (.int .i64 R.N)) (h1 : w.cell? ⟨rg, 1, none⟩ = some (.bool R.F.link)) (h2 : w.cell? ⟨rg, 2, none⟩ = some (.int .u8 R.F.at_)) (h3 : w.cell? ⟨rg, 3, none⟩ = some (.int .u8 R.F.which))
    (h4 : w.cell? ⟨rg, 4, none⟩ = some (.slice aa an ac)) (h7 : w.cell? ⟨rg, 7, none⟩ = some sv) (hrg : rg < w.heap.size)
    (b4 : 4 ≤ R.N) (b16 : R.N ≤ 16) (hi : i < R.N) (hk : k < 4) (hat : R.F.at_ < 256) (hwh : R.F.which < 256)
    (hA : RdAs S w aa an R.F.acts) (ha1 : an ≤ ac) (ha2 : ac ≤ maxLen) (ha3 : an ≤ 140737488355328)
    (hS : SentAt S w sv R.N R.sent) (hlen : R.sent.length ≤ 1000000) (hSl : ∀ b, S b → b < w.heap.size) (hu : WdAt S w u W) (hv : WdAt S w v O) (hWl : W.length ≤ 1000) :
    Calls Try.prog 62 #[.pointer (some ⟨rg, 0, none⟩), .int .i64 i, .int .i64 k, .agg #[u], .agg #[v]] w (SaidPost S (R.saidM i k W O) w) := by
  obtain ⟨sa, scap, rfl, hc1, hc2, -⟩ := hS.at_
  obtain ⟨n, hn⟩ : ∃ n, n = R.sent.length := ⟨_, rfl⟩
  rw [← hn] at hlen hc1 h7 hS
  have HN := Lib.hid hn
  obtain ⟨N, hNN⟩ : ∃ N, N = R.N := ⟨_, rfl⟩
  obtain ⟨link, hlk⟩ : ∃ link, link = R.F.link := ⟨_, rfl⟩
  obtain ⟨at_, hatt⟩ : ∃ at_, at_ = R.F.at_ := ⟨_, rfl⟩
  obtain ⟨wh, hwhh⟩ : ∃ wh, wh = R.F.which := ⟨_, rfl⟩
  obtain ⟨m, hm⟩ : ∃ m, at_ % N = m := ⟨_, rfl⟩
  obtain ⟨c, hc⟩ : ∃ c, wh % 4 = c := ⟨_, rfl⟩
  have hod := odd_eq R i k m (by rw [← hatt, ← hNN, hm]) c (by rw [← hwhh, hc]) an hA.1
  obtain ⟨od, hodd⟩ : ∃ od, od = R.odd i k := ⟨_, rfl⟩
  rw [← hodd, ← hlk] at hod
  have HOD := Lib.hid hodd
  have HOE := Lib.hid hod
  clear hod
  have HR := Lib.hid (And.intro hNN (And.intro hlk (And.intro hatt hwhh)))
  have HSENT : Hid (∀ w' : World, Below w.heap.size w w' → ∀ (ago : Nat), 1 ≤ ago → ago ≤ 1000 → Calls Try.prog 89 #[.pointer (some ⟨rg, 0, none⟩), .int .i64 i, .int .i64 k, .int .i64 ago] w' (SentPost S (R.sentM (i + 2 * R.N) k ago) w')) := Lib.hid fun w' hb ago g1 g2 =>
    sent_any S rg R _ i (i + 2 * R.N) k ago w' ((hb.cell (p := ⟨rg, 0, none⟩) hrg).trans h0) ((hb.cell (p := ⟨rg, 7, none⟩) hrg).trans h7) (Nat.lt_of_lt_of_le hrg hb.size) b4 b16 (by omega) (by omega) hk g1 g2 (hS.below hb) (by rw [← hn]; exact hlen) (fun b hb' => Nat.lt_of_lt_of_le (hSl b hb') hb.size)
  rw [← hNN] at h0 b4 b16 hi
  rw [← hlk] at h1
  rw [← hatt] at h2 hat
  rw [← hwhh] at h3 hwh
  have F : Hid (∀ w' : World, Below w.heap.size w w' → (w'.cell? ⟨rg, 0, none⟩ = some (.int .i64 N) ∧ w'.cell? ⟨rg, 1, none⟩ = some (.bool link) ∧ w'.cell? ⟨rg, 2, none⟩ = some (.int .u8 at_) ∧ w'.cell? ⟨rg, 3, none⟩ = some (.int .u8 wh) ∧ w'.cell? ⟨rg, 4, none⟩ = some (.slice aa an ac) ∧ w'.cell? ⟨rg, 7, none⟩ = some (.slice sa n scap))) := Lib.hid fun w' hb =>
    ⟨(hb.cell (p := ⟨rg, 0, none⟩) hrg).trans h0, (hb.cell (p := ⟨rg, 1, none⟩) hrg).trans h1, (hb.cell (p := ⟨rg, 2, none⟩) hrg).trans h2, (hb.cell (p := ⟨rg, 3, none⟩) hrg).trans h3, (hb.cell (p := ⟨rg, 4, none⟩) hrg).trans h4, (hb.cell (p := ⟨rg, 7, none⟩) hrg).trans h7⟩
  obtain ⟨ua, un, uc, rfl, hur, hu1, hu2⟩ := hu
  obtain ⟨va, vn, vc, rfl, hvr, hv1, hv2⟩ := hv
  have HU := Lib.hid (And.intro hur (And.intro hu1 (And.intro hu2 hWl)))
  have HV : Hid (WdAt S w (.slice va vn vc) O) := Lib.hid ⟨va, vn, vc, rfl, hvr, hv1, hv2⟩
  have HAC := Lib.hid hA
  have HSL := Lib.hid hSl
  have hun : un ≤ 1000 := by rw [← hur.1]; exact hWl
  have t1 : (at_ : Int).tmod N = m := by rw [← Int.ofNat_tmod, hm]
  have t2 : (at_ : Int) % N = m := by rw [← Int.natCast_emod, hm]
  have t3 : (wh : Int).tmod 4 = c := by rw [show (4 : Int) = ((4 : Nat) : Int) from rfl, ← Int.ofNat_tmod, hc]
  have t4 : (wh : Int) % 4 = c := by omega
  have hmN : m < N := by rw [← hm]; exact Nat.mod_lt _ (by omega)
  have wa : IntKind.i64.wrap (at_ : Int) = at_ := IntWalk.i64_in _ (by omega)
  have ww : IntKind.i64.wrap (wh : Int) = wh := IntWalk.i64_in _ (by omega)
  have n1 : ¬ (N : Int) = 0 := by omega
  have n2 : ¬ N = 0 := by omega
  have wm : IntKind.i64.wrap (m : Int) = m := IntWalk.i64_in _ (by omega)
  have wc : IntKind.i64.wrap (c : Int) = c := IntWalk.i64_in _ (by omega)
  have HM := Lib.hid (And.intro hm hc)
  clear hn hNN hlk hatt hwhh hodd h0 h1 h2 h3 h4 h7 hS hA hur hvr hSl hm hc
  unfold maxLen at ha2 hu2 hv2
  go_enter Try.func62, Try.ntmps62
  go_upto_region 1 with fail
  have H0 := Lib.hid (sd3_of w (.slice ua un uc) (.slice va vn vc))
  generalize (((w.alloc (.cells #[Value.slice ua un uc] 34)).alloc (.cells #[Value.slice va vn vc] 34)).alloc (.cells #[.slice none 0 0] 34)) = w0 at H0 ⊢
  obtain ⟨d0, d1, d2, d3, d4, d7⟩ := F.out w0 H0.out.bel
  go_cut [54] from 15 to 54 (fun s wx => CutOdd od w0 s wx)
  case first =>
    by_cases hmi : m = i
    · subst hmi
      cases link with
      | false =>
        by_cases hn0 : an = 0
        · subst hn0
          go_quiet (fail)
          go_wp2_with fail
          go_meet
          exact ⟨by rw [HOE.out]; simp, _, rfl⟩
        · have hn1 : ((an : Int) == 0) = false := by simp; omega
          go_quiet (fail)
          go_wp2_with fail
          go_meet
          exact ⟨by rw [HOE.out]; simp [hn0]; omega, _, rfl⟩
      | true =>
        by_cases hck : c = k
        · subst hck
          by_cases hn0 : an = 0
          · subst hn0
            go_quiet (fail)
            go_wp2_with fail
            go_meet
            exact ⟨by rw [HOE.out]; simp, _, rfl⟩
          · have hn1 : ((an : Int) == 0) = false := by simp; omega
            go_quiet (fail)
            go_wp2_with fail
            go_meet
            exact ⟨by rw [HOE.out]; simp [hn0]; omega, _, rfl⟩
        · have hck1 : ((c : Int) != (k : Int)) = true := by simp; omega
          go_quiet (fail)
          go_wp2_with fail
          go_meet
          exact ⟨by rw [HOE.out]; simp [hck], _, rfl⟩
    · have hmi1 : ((m : Int) != (i : Int)) = true := by simp; omega
      go_quiet (fail)
      go_wp2_with fail
      go_meet
      exact ⟨by rw [HOE.out]; simp [hmi], _, rfl⟩
  case rest =>
    obtain ⟨rfl, q, rfl⟩ := hcut
    have H1 := Lib.hid (H0.out.drewN q)
    clear d0 d1 d2 d3 d4 d7 H0
    generalize w0.drewN q = w1 at H1 ⊢
    clear w0
    have c0 : w1.cell? ⟨w.heap.size, 0, none⟩ = some (.slice ua un uc) := H1.out.b0.cell 0
    have c1 : w1.cell? ⟨w.heap.size + 1, 0, none⟩ = some (.slice va vn vc) := H1.out.b1.cell 0
    have c2 : w1.cell? ⟨w.heap.size + 1 + 1, 0, none⟩ = some (.slice none 0 0) := H1.out.b2.cell 0
    have z2 := H1.out.b2.frozen 0
    cases od with
    | false =>
      have HE := Lib.hid (saidM_no (W := W) (O := O) HOD.out)
      go_wp2_with fail
      try simp only [Exit.inBlock, Exit.then]
      obtain ⟨e1, e2⟩ := H1.out.end_ (S := S) (l := R.saidM i k W O) (x := .slice ua un uc) (by rw [HE.out]; exact ⟨ua, un, uc, rfl, (HU.out.1.keep H1.out.bel.size (fun b _ hl => H1.out.bel.block b hl)).mono (fun b _ hb => .inl hb), HU.out.2.1, HU.out.2.2.1⟩) HSL.out
      first | exact bodyPost_ret (ret_row (n := 1) rfl (by kernel_rfl) _ _ _ rfl e1) rfl e2 | exact bodyPost_end (ret_row (n := 1) rfl (by kernel_rfl) _ _ _ rfl e1) rfl e2
    | true =>
      have hpos : 0 < an := by have := odd_pos HOD.out; rw [HAC.out.1] at this; exact this
      obtain ⟨j, hj⟩ : ∃ j, (n * 4 + k) % an = j := ⟨_, rfl⟩
      have hjn : j < an := by rw [← hj]; exact Nat.mod_lt _ hpos
      obtain ⟨x, hx⟩ : ∃ x, R.F.acts[j]? = some x := ⟨_, List.getElem?_eq_getElem (by rw [HAC.out.1]; exact hjn)⟩
      have HE := Lib.hid (saidM_yes (W := W) (O := O) HOD.out (x := x) (by rw [← HN.out, HAC.out.1, hj]; exact hx))
      obtain ⟨b, off, tv, rfl, hbS, hbw, hr1, hr2, hrt⟩ := HAC.out.2.2 j x hx
      have hxo := HAC.out.2.1 x (List.mem_of_getElem? hx)
      obtain ⟨xv, hxv⟩ : ∃ xv, xv = x.vals tv := ⟨_, rfl⟩
      rw [← hxv] at hr2
      have hxl : xv.length = 59 := by rw [hxv]; exact ActM.len hxo tv
      have hxc : xv.all cell1 = true := by
        have := hrt.cell1 hxo.2.2
        rw [hxv]
        simp only [ActM.vals, List.all_cons, this]; rfl
      have HX := Lib.hid (And.intro hxv (And.intro hxo hrt))
      have e1 : ((n : Int) * 4 + k).tmod an = (j : Int) := by rw [← hj, Int.tmod_eq_emod_of_nonneg (by omega)]; norm_cast
      have e2 : ((n : Int) * 4 + k) % an = (j : Int) := by rw [← hj]; norm_cast
      have e3 : ¬ (an : Int) = 0 := by omega
      have e4 : ¬ an = 0 := by omega
      have e5 : (j : Int) < an := by omega
      have e6 : (0 : Int) ≤ j := by omega
      have wr1 : IntKind.i64.wrap ((n : Int) * 4) = (n : Int) * 4 := IntWalk.i64_in _ (by omega)
      have wr2 : IntKind.i64.wrap ((n : Int) * 4 + k) = (n : Int) * 4 + k := IntWalk.i64_in _ (by omega)
      have F2 : Hid (∀ w' : World, Below w.heap.size w w' → (w'.cell? ⟨rg, 4, none⟩ = some (.slice (some ⟨b, off, none⟩) an ac) ∧ w'.cell? ⟨rg, 7, none⟩ = some (.slice sa n scap) ∧ hasRow w' ⟨b, off + j * 59, none⟩ 59 = true ∧ rowOf w' ⟨b, off + j * 59, none⟩ 59 = xv)) := Lib.hid fun w' hb => by
        have hr := row_below hb (p := ⟨b, off + j * 59, none⟩) hbw 59
        obtain ⟨-, -, -, -, q4, q7⟩ := F.out w' hb
        exact ⟨q4, q7, hr.1.trans hr1, hr.2.trans hr2⟩
      have HBa : Hid (Below w.heap.size w (w1.alloc (.cells actZ.toArray 163))) := Lib.hid (H1.out.bel.alloc H1.out.bel.size _)
      have HBx : Hid (Below w.heap.size w (w1.alloc (.cells xv.toArray 163))) := Lib.hid (H1.out.bel.alloc H1.out.bel.size _)
      clear hxv hxo hrt hr1 hr2 hx hj
      have haz := len_actZ
      go_upto_region 3 with fail
      go_region_held3 (fun w' => (w'.cell? ⟨rg, 4, none⟩ = some (.slice (some ⟨b, off, none⟩) an ac) ∧ w'.cell? ⟨rg, 7, none⟩ = some (.slice sa n scap) ∧ hasRow w' ⟨b, off + j * 59, none⟩ 59 = true ∧ rowOf w' ⟨b, off + j * 59, none⟩ 59 = xv))
        (with_reducible (first | exact F2.out _ H1.out.bel.drew | exact F2.out _ HBa.out.drew | exact F2.out _ HBx.out.drew | exact F2.out _ HBx.out))
        (fail)
      have K := Lib.hid (Blk.new w1 163 xv.toArray).drew
      have HG := Lib.hid H1.out.sz
      have H2 := Lib.hid (H1.out.below (((Below.refl _ _).alloc (Nat.le_refl _) (.cells xv.toArray 163)).drew))
      generalize (w1.alloc (.cells xv.toArray 163)).drew = w2 at K H2 ⊢
      generalize w1.heap.size = ga at K HG ⊢
      clear c0 c1 c2 z2 HBa HBx H1 F2 e1 e2 e3 e4 e5 e6 wr1 wr2
      obtain ⟨kd, hkd⟩ : ∃ kd : Nat, x.kind % 6 = kd := ⟨(x.kind % 6).toNat, by omega⟩
      obtain ⟨sm, hsm⟩ : ∃ sm : Nat, x.s % (N : Int) = sm := ⟨(x.s % (N : Int)).toNat, by
        have := Int.emod_nonneg x.s n1
        omega⟩
      have HE2 := HE.out
      rw [← HR.out.1, hkd, hsm, Int.toNat_natCast] at HE2
      have hxk := HX.out.2.1.1
      have hxs := HX.out.2.1.2.1
      have hsmN : sm < N := by
        have := Int.emod_lt_of_pos x.s (b := N) (by omega)
        omega
      have hkd6 : kd < 6 := by omega
      have k0 : w2.cell? ⟨ga, 0, none⟩ = some (.int .u8 x.kind) := by rw [K.out.cell, HX.out.1]; rfl
      have k1 : w2.cell? ⟨ga, 1, none⟩ = some (.int .u8 x.s) := by rw [K.out.cell, HX.out.1]; rfl
      have k57 : hasRow w2 ⟨ga, 2, none⟩ 57 = true ∧ rowOf w2 ⟨ga, 2, none⟩ 57 = x.row.vals tv := by
        obtain ⟨-, -, q3, q4, -⟩ := K.out.rules
        have hrl := Rw.len HX.out.2.1.2.2 tv
        refine ⟨by rw [q3, hxl]; rfl, ?_⟩
        rw [q4 _ _ (by omega), HX.out.1]
        show (x.row.vals tv).take 57 = _
        rw [List.take_of_length_le (by omega)]
      obtain ⟨rv, hrv⟩ : ∃ rv, rv = x.row.vals tv := ⟨_, rfl⟩
      rw [← hrv] at k57
      have hrvl : rv.length = 57 := by rw [hrv]; exact Rw.len HX.out.2.1.2.2 tv
      have hrvc : rv.all cell1 = true := by rw [hrv]; exact HX.out.2.2.cell1 HX.out.2.1.2.2
      have HRV := Lib.hid hrv
      have HK57 := Lib.hid k57
      obtain ⟨xk, hxkk⟩ : ∃ xk, xk = x.kind := ⟨_, rfl⟩
      obtain ⟨xs, hxss⟩ : ∃ xs, xs = x.s := ⟨_, rfl⟩
      rw [← hxkk] at k0 hkd hxk
      rw [← hxss] at k1 hsm hxs
      have c0 : w2.cell? ⟨w.heap.size, 0, none⟩ = some (.slice ua un uc) := H2.out.b0.cell 0
      have c1 : w2.cell? ⟨w.heap.size + 1, 0, none⟩ = some (.slice va vn vc) := H2.out.b1.cell 0
      have z2 := H2.out.b2.frozen 0
      have d0 := (F.out w2 H2.out.bel).1
      have s1 : xs.tmod N = sm := by rw [Int.tmod_eq_emod_of_nonneg hxs.1]; exact hsm
      have s2 : xs % N = sm := hsm
      have ws : IntKind.i64.wrap xs = xs := IntWalk.i64_in _ (by omega)
      have g1 : xk.tmod 6 = kd := by rw [Int.tmod_eq_emod_of_nonneg hxk.1]; exact hkd
      have g2 : xk % 6 = kd := hkd
      have wk : IntKind.u8.wrap xk = xk := by simp [IntKind.wrap, IntKind.signed, IntKind.bits]; omega
      have wk2 : IntKind.u8.wrap (kd : Int) = kd := by simp [IntKind.wrap, IntKind.signed, IntKind.bits]; omega
      have HE3 := Lib.hid HE2
      have HKS := Lib.hid (And.intro hxkk hxss)
      clear HE2 hrv hkd hsm hxkk hxss k57
      clear HE
      go_upto_region 4 with fail
      go_quiet (fail)
      have H3 := Lib.hid (H2.out.drewN nq)
      have K3 := Lib.hid (K.out.drewN nq)
      clear c0 c1 z2 d0 k0 k1 H2 K s1 s2 ws HK57
      generalize w2.drewN nq = w3 at H3 K3 ⊢
      have k0 : w3.cell? ⟨ga, 0, none⟩ = some (.int .u8 xk) := by rw [K3.out.cell, HX.out.1, HKS.out.1]; rfl
      have c0 : w3.cell? ⟨w.heap.size, 0, none⟩ = some (.slice ua un uc) := H3.out.b0.cell 0
      have c1 : w3.cell? ⟨w.heap.size + 1, 0, none⟩ = some (.slice va vn vc) := H3.out.b1.cell 0
      have z2 := H3.out.b2.frozen 0
      have c2 : w3.cell? ⟨w.heap.size + 1 + 1, 0, none⟩ = some (.slice none 0 0) := H3.out.b2.cell 0
      have hsz3 := H3.out.sz
      have hlt3 : w.heap.size + 1 + 1 < w3.heap.size := by omega
      have HUR : Hid (∀ w', Below w.heap.size w w' → RdRs S w' ua un W) := Lib.hid fun w' hb => HU.out.1.keep hb.size (fun b _ hl => hb.block b hl)
      have SLw : Hid (∀ w', Below w.heap.size w w' → ∀ b, S b → b < w'.heap.size) := Lib.hid fun w' hb b hb' => Nat.lt_of_lt_of_le (HSL.out b hb') hb.size
      obtain rfl | rfl | rfl | rfl | rfl | rfl : kd = 0 ∨ kd = 1 ∨ kd = 2 ∨ kd = 3 ∨ kd = 4 ∨ kd = 5 := by omega
      · have HE4 : Hid (R.saidM i k W O = W) := Lib.hid HE3.out
        go_wp2_with fail
        try simp only [Exit.inBlock, Exit.then]
        obtain ⟨e1, e2⟩ := H3.out.end_ (S := S) (l := R.saidM i k W O) (x := .slice ua un uc) (by rw [HE4.out]; exact ⟨ua, un, uc, rfl, (HUR.out w3 H3.out.bel).mono (fun b _ hb => .inl hb), HU.out.2.1, HU.out.2.2.1⟩) HSL.out
        first | exact bodyPost_ret (ret_row (n := 1) rfl (by kernel_rfl) _ _ _ rfl e1) rfl e2 | exact bodyPost_end (ret_row (n := 1) rfl (by kernel_rfl) _ _ _ rfl e1) rfl e2
      · have HE4 : Hid (R.saidM i k W O = []) := Lib.hid HE3.out
        go_wp2_with fail
        try simp only [Exit.inBlock, Exit.then]
        obtain ⟨e1, e2⟩ := H3.out.end_ (S := S) (l := R.saidM i k W O) (x := .slice none 0 0) (by rw [HE4.out]; exact wdAt_nil _ _) HSL.out
        first | exact bodyPost_ret (ret_row (n := 1) rfl (by kernel_rfl) _ _ _ rfl e1) rfl e2 | exact bodyPost_end (ret_row (n := 1) rfl (by kernel_rfl) _ _ _ rfl e1) rfl e2
      · have HE4 : Hid (R.saidM i k W O = W.set sm x.row) := Lib.hid HE3.out
        by_cases hu0 : un = 0
        · subst hu0
          have hW0 : W = [] := List.eq_nil_of_length_eq_zero HU.out.1.1
          have HE5 : Hid (R.saidM i k W O = []) := Lib.hid (by rw [HE4.out, hW0]; rfl)
          clear hW0
          go_upto_region 10 with (at_builtin; refine wpList_appZ app_row (by rfl) (.const (.slice none 0 0)) (.tmp 95) (by rfl) (by rfl) ua 0 uc W (by rfl) (HUR.out w3 H3.out.bel) (SLw.out w3 H3.out.bel) (by omega) ?_ (fun h => absurd h (by omega)); intro _)
          have H5 := Lib.hid (H3.out.below ((Below.refl _ _).alloc (Nat.le_refl _) (.cells #[.slice none 0 0] 34)))
          have KT := Lib.hid (Blk.new w3 34 #[.slice none 0 0])
          generalize (w3.alloc (.cells #[.slice none 0 0] 34)) = w5 at H5 KT ⊢
          clear c0 c1 z2 c2 k0
          generalize w3.heap.size = gt at KT ⊢
          have c2 : w5.cell? ⟨w.heap.size + 1 + 1, 0, none⟩ = some (.slice none 0 0) := H5.out.b2.cell 0
          have z2 := H5.out.b2.frozen 0
          have ct : w5.cell? ⟨gt, 0, none⟩ = some (.slice none 0 0) := KT.out.cell 0
          go_wp2_with fail
          try simp only [Exit.inBlock, Exit.then]
          obtain ⟨e1, e2⟩ := H5.out.end_ (S := S) (l := R.saidM i k W O) (x := .slice none 0 0) (by rw [HE5.out]; exact wdAt_nil _ _) HSL.out
          first | exact bodyPost_ret (ret_row (n := 1) rfl (by kernel_rfl) _ _ _ rfl e1) rfl e2 | exact bodyPost_end (ret_row (n := 1) rfl (by kernel_rfl) _ _ _ rfl e1) rfl e2
        · go_upto_region 10 with (at_builtin; refine wpList_appZ app_row (by rfl) (.const (.slice none 0 0)) (.tmp 95) (by rfl) (by rfl) ua un uc W (by rfl) (HUR.out w3 H3.out.bel) (SLw.out w3 H3.out.bel) (by omega) (fun h => absurd h (by omega)) ?_; intro hup cap w4 ps hps1 hps2 hown hb4 hcp1 hcp2; have HP := Lib.hid (And.intro hps1 (And.intro hps2 (And.intro hown (And.intro hcp1 hcp2)))); have H4 := Lib.hid (H3.out.below hb4); have K4 := Lib.hid (K3.out.below hb4 K3.out.lt); have HB4 := Lib.hid hb4; clear hps1 hps2 hown hb4)
          have H5 := Lib.hid (H4.out.below ((Below.refl _ _).alloc (Nat.le_refl _) (.cells #[.slice (some ⟨w3.heap.size, 0, none⟩) un cap] 34)))
          have K5 := Lib.hid (K4.out.alloc (.cells #[.slice (some ⟨w3.heap.size, 0, none⟩) un cap] 34))
          have KT := Lib.hid (Blk.new w4 34 #[.slice (some ⟨w3.heap.size, 0, none⟩) un cap])
          have HH5 : Hid (HB w3 w3.heap.size S ps (w4.alloc (.cells #[.slice (some ⟨w3.heap.size, 0, none⟩) un cap] 34))) := Lib.hid (HB.of_own (HP.out.2.2.1.alloc _) (fun p hp => ⟨(HP.out.2.1 p hp).1, (HP.out.2.1 p hp).2.below ((Below.refl _ _).alloc (Nat.le_refl _) _)⟩) (Nat.le_refl _) (fun h => Nat.lt_irrefl _ (SLw.out w3 H3.out.bel _ h)) (HB4.out.alloc HB4.out.size _))
          have hgt : w3.heap.size < w4.heap.size := (HP.out.2.2.1.lt _ rfl).2
          have hpl : ps.length = un := by rw [← HU.out.1.1, ← HP.out.1]; simp
          have hcp1 := HP.out.2.2.2.1
          have hcp2 := HP.out.2.2.2.2
          have HPF := Lib.hid HP.out.1
          generalize (w4.alloc (.cells #[.slice (some ⟨w3.heap.size, 0, none⟩) un cap] 34)) = w5 at H5 K5 KT HH5 ⊢
          have hW3 := hsz3
          clear HP H4 K4 HB4
          clear c0 c1 z2 c2 k0
          generalize w4.heap.size = gt at KT hgt ⊢
          obtain ⟨gr, hgr⟩ : ∃ gr, gr = w3.heap.size := ⟨_, rfl⟩
          rw [← hgr] at KT HH5 hgt hW3 ⊢
          have HGR := Lib.hid hgr
          clear hgr
          have c2 : w5.cell? ⟨w.heap.size + 1 + 1, 0, none⟩ = some (.slice none 0 0) := H5.out.b2.cell 0
          have z2 := H5.out.b2.frozen 0
          have ct : w5.cell? ⟨gt, 0, none⟩ = some (.slice (some ⟨gr, 0, none⟩) un cap) := KT.out.cell 0
          by_cases hlt : sm < un
          · have hlt1 : (sm : Int) < un := by omega
            have hlt2 : (0 : Int) ≤ sm := by omega
            obtain ⟨hcp, hset⟩ := HH5.out.set_ (i := sm) (by rw [hpl]; exact hlt) HX.out.2.1.2.2 (tv := tv) (HX.out.2.2.keep H5.out.bel.size (fun b _ hl => H5.out.bel.block b hl))
            rw [← HRV.out] at hset
            have HSET := Lib.hid hset
            have hk57 : hasRow w5 ⟨ga, 2, none⟩ 57 = true ∧ rowOf w5 ⟨ga, 2, none⟩ 57 = rv := by
              obtain ⟨-, -, q3, q4, -⟩ := K5.out.rules
              refine ⟨by rw [q3, hxl]; rfl, ?_⟩
              rw [q4 _ _ (by omega), HX.out.1]
              show (x.row.vals tv).take 57 = _
              rw [← HRV.out, List.take_of_length_le (by omega)]
            obtain ⟨hk1, hk2⟩ := hk57
            clear hset
            go_upto_region 12 with fail
            have hgg : gr < gt := hgt
            have H6 := Lib.hid (H5.out.put (g := gr) (o := sm * 57) (l := rv) (by omega))
            have KT6 : Hid (Blk (putRow w5 ⟨gr, sm * 57, none⟩ rv) gt 34 #[.slice (some ⟨gr, 0, none⟩) un cap]) := Lib.hid ((putRow_other _ _ _ _ (by show gt ≠ gr; omega)).trans KT.out)
            have HRD : Hid (RdRs (fun b => b = gr ∨ S b) (putRow w5 ⟨gr, sm * 57, none⟩ rv) (some ⟨gr, 0, none⟩) un (W.set sm x.row)) := Lib.hid (by
              have h1 := HSET.out.rd
              rw [List.length_set, hpl, List.map_set, HPF.out] at h1
              exact h1)
            generalize putRow w5 ⟨gr, sm * 57, none⟩ rv = w6 at H6 KT6 HRD ⊢
            clear hk1 hk2 c2 z2 ct hcp HSET
            have c2 : w6.cell? ⟨w.heap.size + 1 + 1, 0, none⟩ = some (.slice none 0 0) := H6.out.b2.cell 0
            have z2 := H6.out.b2.frozen 0
            have ct : w6.cell? ⟨gt, 0, none⟩ = some (.slice (some ⟨gr, 0, none⟩) un cap) := KT6.out.cell 0
            go_wp2_with fail
            try simp only [Exit.inBlock, Exit.then]
            obtain ⟨e1, e2⟩ := H6.out.end_ (S := S) (l := R.saidM i k W O) (x := .slice (some ⟨gr, 0, none⟩) un cap) (by rw [HE4.out]; exact ⟨_, _, _, rfl, HRD.out.mono (fun b _ hb => hb.elim (fun h => .inr (by omega)) .inl), hcp1, hcp2⟩) HSL.out
            first | exact bodyPost_ret (ret_row (n := 1) rfl (by kernel_rfl) _ _ _ rfl e1) rfl e2 | exact bodyPost_end (ret_row (n := 1) rfl (by kernel_rfl) _ _ _ rfl e1) rfl e2
          · have hlt1 : ¬ (sm : Int) < un := by omega
            have HRD : Hid (RdRs (fun b => b = gr ∨ S b) w5 (some ⟨gr, 0, none⟩) un (W.set sm x.row)) := Lib.hid (by
              have h1 := HH5.out.rd
              rw [hpl, HPF.out] at h1
              rw [List.set_eq_of_length_le (by rw [HU.out.1.1]; omega)]
              exact h1)
            go_wp2_with fail
            try simp only [Exit.inBlock, Exit.then]
            obtain ⟨e1, e2⟩ := H5.out.end_ (S := S) (l := R.saidM i k W O) (x := .slice (some ⟨gr, 0, none⟩) un cap) (by rw [HE4.out]; exact ⟨_, _, _, rfl, HRD.out.mono (fun b _ hb => hb.elim (fun h => .inr (by omega)) .inl), hcp1, hcp2⟩) HSL.out
            first | exact bodyPost_ret (ret_row (n := 1) rfl (by kernel_rfl) _ _ _ rfl e1) rfl e2 | exact bodyPost_end (ret_row (n := 1) rfl (by kernel_rfl) _ _ _ rfl e1) rfl e2
      · have HE4 : Hid (R.saidM i k W O = R.sentM (i + 2 * R.N) k (1 + sm)) := Lib.hid (by have := HE3.out; rw [HR.out.1] at this; exact this)
        have HS3 : Hid (∀ w' : World, Below w.heap.size w w' → Calls Try.prog 89 #[.pointer (some ⟨rg, 0, none⟩), .int .i64 i, .int .i64 k, .int .i64 (1 + (sm : Int))] w' (SentPost S (R.sentM (i + 2 * R.N) k (1 + sm)) w')) := Lib.hid fun w' hb => by
          have := HSENT.out w' hb (1 + sm) (by omega) (by omega)
          rw [Int.natCast_add] at this
          exact this
        go_wp2_with fail
        (with_reducible refine (HS3.out w3 H3.out.bel).mono ?_)
        rintro e w4 ⟨u4, rfl, ⟨xa, xn, xc, rfl, hxr⟩, hb4⟩
        have hu4 : WdAt S w4 (.slice xa xn xc) (R.sentM (i + 2 * R.N) k (1 + sm)) := ⟨xa, xn, xc, rfl, hxr⟩
        have HU4 := Lib.hid hu4
        have H4 := Lib.hid (H3.out.below hb4)
        clear hb4 hu4 hxr
        have z4 := H4.out.b2.frozen 0
        have c4 : w4.cell? ⟨w.heap.size + 1 + 1, 0, none⟩ = some (.slice none 0 0) := H4.out.b2.cell 0
        go_wp2_with fail
        try simp only [Exit.inBlock, Exit.then]
        obtain ⟨e1, e2⟩ := H4.out.end_ (S := S) (l := R.saidM i k W O) (x := .slice xa xn xc) (by rw [HE4.out]; exact HU4.out.mono (fun b _ hb => .inl hb)) HSL.out
        first | exact bodyPost_ret (ret_row (n := 1) rfl (by kernel_rfl) _ _ _ rfl e1) rfl e2 | exact bodyPost_end (ret_row (n := 1) rfl (by kernel_rfl) _ _ _ rfl e1) rfl e2
      · have HE4 : Hid (R.saidM i k W O = O) := Lib.hid HE3.out
        go_wp2_with fail
        try simp only [Exit.inBlock, Exit.then]
        obtain ⟨e1, e2⟩ := H3.out.end_ (S := S) (l := R.saidM i k W O) (x := .slice va vn vc) (by rw [HE4.out]; exact (HV.out.keep H3.out.bel.size (fun b _ hl => H3.out.bel.block b hl)).mono (fun b _ hb => .inl hb)) HSL.out
        first | exact bodyPost_ret (ret_row (n := 1) rfl (by kernel_rfl) _ _ _ rfl e1) rfl e2 | exact bodyPost_end (ret_row (n := 1) rfl (by kernel_rfl) _ _ _ rfl e1) rfl e2
      · have HE4 : Hid (R.saidM i k W O = W.set i x.row) := Lib.hid HE3.out
        by_cases hu0 : un = 0
        · subst hu0
          have hW0 : W = [] := List.eq_nil_of_length_eq_zero HU.out.1.1
          have HE5 : Hid (R.saidM i k W O = []) := Lib.hid (by rw [HE4.out, hW0]; rfl)
          clear hW0
          go_upto_region 19 with (at_builtin; refine wpList_appZ app_row (by rfl) (.const (.slice none 0 0)) (.tmp 124) (by rfl) (by rfl) ua 0 uc W (by rfl) (HUR.out w3 H3.out.bel) (SLw.out w3 H3.out.bel) (by omega) ?_ (fun h => absurd h (by omega)); intro _)
          have H5 := Lib.hid (H3.out.below ((Below.refl _ _).alloc (Nat.le_refl _) (.cells #[.slice none 0 0] 34)))
          have KT := Lib.hid (Blk.new w3 34 #[.slice none 0 0])
          generalize (w3.alloc (.cells #[.slice none 0 0] 34)) = w5 at H5 KT ⊢
          clear c0 c1 z2 c2 k0
          generalize w3.heap.size = gt at KT ⊢
          have c2 : w5.cell? ⟨w.heap.size + 1 + 1, 0, none⟩ = some (.slice none 0 0) := H5.out.b2.cell 0
          have z2 := H5.out.b2.frozen 0
          have ct : w5.cell? ⟨gt, 0, none⟩ = some (.slice none 0 0) := KT.out.cell 0
          go_wp2_with fail
          try simp only [Exit.inBlock, Exit.then]
          obtain ⟨e1, e2⟩ := H5.out.end_ (S := S) (l := R.saidM i k W O) (x := .slice none 0 0) (by rw [HE5.out]; exact wdAt_nil _ _) HSL.out
          first | exact bodyPost_ret (ret_row (n := 1) rfl (by kernel_rfl) _ _ _ rfl e1) rfl e2 | exact bodyPost_end (ret_row (n := 1) rfl (by kernel_rfl) _ _ _ rfl e1) rfl e2
        · go_upto_region 19 with (at_builtin; refine wpList_appZ app_row (by rfl) (.const (.slice none 0 0)) (.tmp 124) (by rfl) (by rfl) ua un uc W (by rfl) (HUR.out w3 H3.out.bel) (SLw.out w3 H3.out.bel) (by omega) (fun h => absurd h (by omega)) ?_; intro hup cap w4 ps hps1 hps2 hown hb4 hcp1 hcp2; have HP := Lib.hid (And.intro hps1 (And.intro hps2 (And.intro hown (And.intro hcp1 hcp2)))); have H4 := Lib.hid (H3.out.below hb4); have K4 := Lib.hid (K3.out.below hb4 K3.out.lt); have HB4 := Lib.hid hb4; clear hps1 hps2 hown hb4)
          have H5 := Lib.hid (H4.out.below ((Below.refl _ _).alloc (Nat.le_refl _) (.cells #[.slice (some ⟨w3.heap.size, 0, none⟩) un cap] 34)))
          have K5 := Lib.hid (K4.out.alloc (.cells #[.slice (some ⟨w3.heap.size, 0, none⟩) un cap] 34))
          have KT := Lib.hid (Blk.new w4 34 #[.slice (some ⟨w3.heap.size, 0, none⟩) un cap])
          have HH5 : Hid (HB w3 w3.heap.size S ps (w4.alloc (.cells #[.slice (some ⟨w3.heap.size, 0, none⟩) un cap] 34))) := Lib.hid (HB.of_own (HP.out.2.2.1.alloc _) (fun p hp => ⟨(HP.out.2.1 p hp).1, (HP.out.2.1 p hp).2.below ((Below.refl _ _).alloc (Nat.le_refl _) _)⟩) (Nat.le_refl _) (fun h => Nat.lt_irrefl _ (SLw.out w3 H3.out.bel _ h)) (HB4.out.alloc HB4.out.size _))
          have hgt : w3.heap.size < w4.heap.size := (HP.out.2.2.1.lt _ rfl).2
          have hpl : ps.length = un := by rw [← HU.out.1.1, ← HP.out.1]; simp
          have hcp1 := HP.out.2.2.2.1
          have hcp2 := HP.out.2.2.2.2
          have HPF := Lib.hid HP.out.1
          generalize (w4.alloc (.cells #[.slice (some ⟨w3.heap.size, 0, none⟩) un cap] 34)) = w5 at H5 K5 KT HH5 ⊢
          have hW3 := hsz3
          clear HP H4 K4 HB4
          clear c0 c1 z2 c2 k0
          generalize w4.heap.size = gt at KT hgt ⊢
          obtain ⟨gr, hgr⟩ : ∃ gr, gr = w3.heap.size := ⟨_, rfl⟩
          rw [← hgr] at KT HH5 hgt hW3 ⊢
          have HGR := Lib.hid hgr
          clear hgr
          have c2 : w5.cell? ⟨w.heap.size + 1 + 1, 0, none⟩ = some (.slice none 0 0) := H5.out.b2.cell 0
          have z2 := H5.out.b2.frozen 0
          have ct : w5.cell? ⟨gt, 0, none⟩ = some (.slice (some ⟨gr, 0, none⟩) un cap) := KT.out.cell 0
          by_cases hlt : i < un
          · have hlt1 : (i : Int) < un := by omega
            have hlt2 : (0 : Int) ≤ i := by omega
            obtain ⟨hcp, hset⟩ := HH5.out.set_ (i := i) (by rw [hpl]; exact hlt) HX.out.2.1.2.2 (tv := tv) (HX.out.2.2.keep H5.out.bel.size (fun b _ hl => H5.out.bel.block b hl))
            rw [← HRV.out] at hset
            have HSET := Lib.hid hset
            have hk57 : hasRow w5 ⟨ga, 2, none⟩ 57 = true ∧ rowOf w5 ⟨ga, 2, none⟩ 57 = rv := by
              obtain ⟨-, -, q3, q4, -⟩ := K5.out.rules
              refine ⟨by rw [q3, hxl]; rfl, ?_⟩
              rw [q4 _ _ (by omega), HX.out.1]
              show (x.row.vals tv).take 57 = _
              rw [← HRV.out, List.take_of_length_le (by omega)]
            obtain ⟨hk1, hk2⟩ := hk57
            clear hset
            go_upto_region 21 with fail
            have hgg : gr < gt := hgt
            have H6 := Lib.hid (H5.out.put (g := gr) (o := i * 57) (l := rv) (by omega))
            have KT6 : Hid (Blk (putRow w5 ⟨gr, i * 57, none⟩ rv) gt 34 #[.slice (some ⟨gr, 0, none⟩) un cap]) := Lib.hid ((putRow_other _ _ _ _ (by show gt ≠ gr; omega)).trans KT.out)
            have HRD : Hid (RdRs (fun b => b = gr ∨ S b) (putRow w5 ⟨gr, i * 57, none⟩ rv) (some ⟨gr, 0, none⟩) un (W.set i x.row)) := Lib.hid (by
              have h1 := HSET.out.rd
              rw [List.length_set, hpl, List.map_set, HPF.out] at h1
              exact h1)
            generalize putRow w5 ⟨gr, i * 57, none⟩ rv = w6 at H6 KT6 HRD ⊢
            clear hk1 hk2 c2 z2 ct hcp HSET
            have c2 : w6.cell? ⟨w.heap.size + 1 + 1, 0, none⟩ = some (.slice none 0 0) := H6.out.b2.cell 0
            have z2 := H6.out.b2.frozen 0
            have ct : w6.cell? ⟨gt, 0, none⟩ = some (.slice (some ⟨gr, 0, none⟩) un cap) := KT6.out.cell 0
            go_wp2_with fail
            try simp only [Exit.inBlock, Exit.then]
            obtain ⟨e1, e2⟩ := H6.out.end_ (S := S) (l := R.saidM i k W O) (x := .slice (some ⟨gr, 0, none⟩) un cap) (by rw [HE4.out]; exact ⟨_, _, _, rfl, HRD.out.mono (fun b _ hb => hb.elim (fun h => .inr (by omega)) .inl), hcp1, hcp2⟩) HSL.out
            first | exact bodyPost_ret (ret_row (n := 1) rfl (by kernel_rfl) _ _ _ rfl e1) rfl e2 | exact bodyPost_end (ret_row (n := 1) rfl (by kernel_rfl) _ _ _ rfl e1) rfl e2
          · have hlt1 : ¬ (i : Int) < un := by omega
            have HRD : Hid (RdRs (fun b => b = gr ∨ S b) w5 (some ⟨gr, 0, none⟩) un (W.set i x.row)) := Lib.hid (by
              have h1 := HH5.out.rd
              rw [hpl, HPF.out] at h1
              rw [List.set_eq_of_length_le (by rw [HU.out.1.1]; omega)]
              exact h1)
            go_wp2_with fail
            try simp only [Exit.inBlock, Exit.then]
            obtain ⟨e1, e2⟩ := H5.out.end_ (S := S) (l := R.saidM i k W O) (x := .slice (some ⟨gr, 0, none⟩) un cap) (by rw [HE4.out]; exact ⟨_, _, _, rfl, HRD.out.mono (fun b _ hb => hb.elim (fun h => .inr (by omega)) .inl), hcp1, hcp2⟩) HSL.out
            first | exact bodyPost_ret (ret_row (n := 1) rfl (by kernel_rfl) _ _ _ rfl e1) rfl e2 | exact bodyPost_end (ret_row (n := 1) rfl (by kernel_rfl) _ _ _ rfl e1) rfl e2
end Go.Proofs.Ytbdklfcgcmdgaaa
