/-
  sennitlaw15.AgreesOne, walked.
-/
import Derived.Test.YtphbmnjkhgfnoaaAgrF
import Derived.WalkSpells
import Derived.Deep.CutBlock
import Derived.Deep.DeepCutAuto
import Derived.Deep.QuietTactic
import Derived.BigQuiet
namespace Go.Proofs.Ytphbmnjkhgfnoaa
open Go.RowKit
set_option linter.unusedVariables false
set_option linter.unusedSimpArgs false

theorem blk_new' (w : World) (t : TypeId) (cs : Array Value) {g : Nat} (h : w.heap.size = g) : Blk (w.alloc (.cells cs t)) g t cs := h ▸ Blk.new w t cs
/-- what was said is being made -/
structure OT (w : World) (xc : Array Value) (N k : Nat) (L : List Hd) (wr : World) : Prop where
  x : Blk wr (w.heap.size + 1) 43 xc
  t : Blk wr (w.heap.size + 1 + 1) 60 (flatH (parH N k L)).toArray
  bel : Below w.heap.size w wr
theorem OT.step {w : World} {xc : Array Value} {N k : Nat} {L : List Hd} {wr : World} (h : OT w xc N k L wr) (hL : ∀ x ∈ L, x.ok) (hN : N = L.length) {x : Hd} (hx : L[k]? = some x) :
    canPut wr ⟨w.heap.size + 1 + 1, k * 56, none⟩ 56 = true ∧ OT w xc N (k + 1) L (putRow wr ⟨w.heap.size + 1 + 1, k * 56, none⟩ x.vals) := by
  have h2 : k < L.length := (List.getElem?_eq_some_iff.1 hx).1
  have hxo := hL x (List.mem_of_getElem? hx)
  have hlen := len_flatH (parH_ok (N := N) (k := k) hL)
  rw [parH_len (by omega) (by omega)] at hlen
  have hfs := flatH_set (parH_ok (N := N) (k := k) hL) (k := k) (by rw [parH_len (by omega) (by omega)]; omega) x hxo
  rw [parH_set (by omega) hx] at hfs
  refine ⟨?_, ?_, ?_, Below.put h.bel (p := ⟨w.heap.size + 1 + 1, k * 56, none⟩) (by simp; omega) x.vals⟩
  · obtain ⟨-, -, -, -, h5⟩ := h.t.rules
    rw [h5, hlen]
    have : (k + 1) * 56 ≤ N * 56 := Nat.mul_le_mul_right _ (by omega)
    simp; omega
  · exact (putRow_other _ _ _ _ (by simp)).trans h.x
  · have := h.t.put (k * 56) x.vals
    rw [← hfs]; exact this
theorem hd_cell1 {h : Hd} (hk : h.ok) : h.vals.all cell1 = true := by
  have := okL_cell1 hk
  simp only [Hd.vals, List.all_cons, this, Bool.and_true]; rfl
theorem step_appH {P : Program} {t e : TypeId} (hA : AppOk P t e 56) {w : World} {ops : Array Oper} {o : Oper} {a : Act} {K : Act → World → Prop} {Q : Exit → Act → World → Prop} {E : Prop} (hgd : o.guard = none) (s x : Operand)
    (ho : o.op = .call { callee := .builtin .append, args := #[s, x], argTypes := #[t, t] })
    (base : Nat) (v : Value) (n : Nat) (xs : List Value) (hs : a.eval s = v) (hown : w.ownsRow base e 56 v n xs)
    {S : Nat → Prop} (ad : Option Addr) (m c : Nat) (l : List Hd) (hx : a.eval x = .slice ad m c) (hrd : RdHs S w ad m l)
    (hn : n + m ≤ 1000000000) (hbase : base ≤ w.heap.size)
    (h : ∀ v' w', w'.ownsRow base e 56 v' (n + m) (xs ++ flatH l) → w.grownBy w' v.ownBlock → (∃ x c, v' = .slice x (n + m) c) → K (a.put o.dst v') w') :
    if Region.wanted o (yielded ops a.tmps) = true then Oper.wp P o a w K Q else E := by
  have hw : Region.wanted o (yielded ops a.tmps) = true := by simp [Region.wanted, hgd]
  rw [if_pos hw]
  rcases Nat.eq_zero_or_pos m with rfl | hm
  · have hl : l = [] := List.eq_nil_of_length_eq_zero hrd.1
    subst hl
    obtain ⟨ht, i, z, hi, hz, hsize, hby, hzs, hsz⟩ := hA
    unfold Oper.wp execOp
    simp only [ho, resolve, invoke, builtin, Sem.run_bind, Sem.run_pure, Result.andThen_ok, List.map_toArray, List.map_cons, List.map_nil, hs, hx, run_append_zero ht hi v n xs hown ad c]
    refine h v w (by simpa [flatH] using hown) ⟨rfl, rfl, rfl, Nat.le_refl _, fun _ _ _ => rfl⟩ ?_
    rcases hown.2 with ⟨rfl, rfl⟩ | ⟨g, cap, cur, rfl, _⟩
    · exact ⟨_, _, rfl⟩
    · exact ⟨_, _, rfl⟩
  · obtain ⟨b, off, rfl, -, -, h1, h2⟩ := hrd.whole hm
    obtain ⟨ht, i, z, hi, hz, hsize, hby, hzs, hsz⟩ := hA
    refine wp_append_lies w s x t ho base e i z 56 i.bytes ht hi hz hsize rfl hzs hsz v n xs hs hown ⟨b, off, none⟩ m c (flatH l) hx (by rw [len_flatH hrd.2.1, hrd.1]) (fun j u hu => ?_) (fun u hu => ?_) hm (by simp only [maxLen]; omega) (Nat.le_trans (Nat.mul_le_mul hn hby) (by omega)) hbase w.heap.size rfl (fun g cap w' k1 k2 _ _ => h _ w' k1 k2 ⟨_, _, rfl⟩)
    · have hj : j < m * 56 := by
        have := (List.getElem?_eq_some_iff.1 hu).1
        rw [len_flatH hrd.2.1, hrd.1] at this
        exact this
      rw [rowOf_at h1 j hj, h2, hu]
    · obtain ⟨y, hy, huy⟩ := List.mem_flatMap.1 hu
      exact cell1_one (List.all_eq_true.1 (hd_cell1 (hrd.2.1 y hy)) u huy)

theorem own_tab {w : World} {base : Nat} {v : Value} {n : Nat} {L : List Hd} (ho : w.ownsRow base 60 56 v n (flatH L)) (h0 : 0 < n) (hn : L.length = n) (hok : ∀ x ∈ L, x.ok) :
    ∃ g cap rest, v = .slice (some ⟨g, 0, none⟩) n cap ∧ Blk w g 60 (flatH L ++ rest).toArray ∧ base ≤ g ∧ n ≤ cap ∧ cap ≤ maxLen := by
  rcases ho.2 with ⟨-, h⟩ | ⟨g, cap, cur, rfl, h1, h2, h3, h4, h5, h6⟩
  · omega
  · refine ⟨g, cap, cur.toList.drop (n * 56), rfl, ?_, h1, h3, h4⟩
    have e : (flatH L ++ cur.toList.drop (n * 56)).toArray = cur := by
      rw [← h6, List.take_append_drop]
    rw [e]
    exact h2
theorem RB.newA {wr w4 : World} {gt cp n : Nat} {r : Rw} {rest : List Value} (h1 : Blk w4 gt 60 (flatH r.t ++ rest).toArray) (h2 : wr.heap.size ≤ gt) (h3 : n ≤ cp) (h4 : cp ≤ maxLen) (hB : Below wr.heap.size wr w4) (hok : r.ok) (hn : n = r.t.length) :
    RB wr w4.heap.size gt cp r (w4.alloc (.cells (r.vals (.slice (some ⟨gt, 0, none⟩) n cp)).toArray 62)) := by
  subst hn
  exact ⟨Blk.new _ _ _, ⟨rest, h1.alloc _⟩, hok, hB.size, h2, hB.alloc hB.size _, h3, h4⟩
theorem RB.newB {wr w4 : World} {gt cp n : Nat} {r : Rw} {rest : List Value} (h1 : Blk w4 gt 60 (flatH r.t ++ rest).toArray) (h2 : wr.heap.size ≤ gt) (h3 : n ≤ cp) (h4 : cp ≤ maxLen) (hB : Below wr.heap.size wr w4) (hz : Blk w4 wr.heap.size 62 rowZ.toArray) (hok : r.ok) (hn : n = r.t.length) :
    RB wr wr.heap.size gt cp r (putRow w4 ⟨wr.heap.size, 0, none⟩ (r.vals (.slice (some ⟨gt, 0, none⟩) n cp))) := by
  subst hn
  have hne : wr.heap.size ≠ gt := hz.ne_ h1 (by decide)
  exact ⟨hz.put_all (by rw [len_rowZ, Rw.len hok]), ⟨rest, (putRow_other _ _ _ _ (by simp; omega)).trans h1⟩, hok, Nat.le_refl _, h2, Below.put hB (p := ⟨wr.heap.size, 0, none⟩) (Nat.le_refl _) _, h3, h4⟩
theorem blk_part {w : World} {g : Nat} {t : TypeId} {cs : Array Value} {l : List Value} {n : Nat} (h : Blk w g t cs) (hn : n ≤ cs.size) (hl : cs.toList.take n = l) : hasRow w ⟨g, 0, none⟩ n = true ∧ rowOf w ⟨g, 0, none⟩ n = l := by
  have h' : Blk w g t cs.toList.toArray := by simpa using h
  obtain ⟨-, -, q3, q4, -⟩ := h'.rules
  refine ⟨by rw [q3]; simp; omega, ?_⟩
  rw [q4 _ _ (by simp; omega), List.drop_zero, hl]
theorem rw0_row (S : Nat → Prop) (w : World) : RowR S w rw0 (.slice none 0 0) := ⟨none, 0, 0, rfl, ⟨rfl, by simp [rw0], by simp [rw0]⟩, Nat.le_refl _, by simp [maxLen]⟩
theorem flatP_cell1 {S : Nat → Prop} {w : World} {ps : List (Rw × Value)} (h : ∀ p ∈ ps, p.1.ok ∧ RowR S w p.1 p.2) : (flatP ps).all cell1 = true := by
  refine List.all_eq_true.2 fun u hu => ?_
  obtain ⟨p, hp, hu⟩ := List.mem_flatMap.1 hu
  exact List.all_eq_true.1 ((h p hp).2.cell1 (h p hp).1) u hu
theorem blk_hd {w : World} {g : Nat} {t : TypeId} {L : List Hd} (h : Blk w g t (flatH L).toArray) (hok : ∀ x ∈ L, x.ok) {s : Nat} {x : Hd} (hx : L[s]? = some x) : hasRow w ⟨g, s * 56, none⟩ 56 = true ∧ rowOf w ⟨g, s * 56, none⟩ 56 = x.vals := by
  have hr := RdHs.of_blk (r := []) (by simpa using h) hok
  obtain ⟨b, off, is, n, r, he, -, hbw, hl, -, -, -, e1, e2, -⟩ := hr.at_ s (List.getElem?_eq_some_iff.1 hx).1
  cases he
  rw [Nat.zero_add] at e1 e2
  rw [hx] at hl
  cases hl
  exact ⟨e1, e2⟩
theorem own_cap {w : World} {base n g cap : Nat} {e : TypeId} {xs : List Value} (ho : w.ownsRow base e 57 (.slice (some ⟨g, 0, none⟩) n cap) n xs) : n ≤ cap ∧ cap ≤ maxLen := by
  rcases ho.2 with ⟨h, -⟩ | ⟨g', cap', cur, he, h1, h2, h3, h4, -⟩
  · cases h
  · cases he; exact ⟨h3, h4⟩
/-- the first vector, if there is one -/
def FstR (A : List Hd) (k : Nat) (u : Value) (w : World) (qb : Bool) : Prop := (qb = true ∧ u = .slice none 0 0) ∨ (qb = false ∧ ∃ g, u = .slice (some ⟨g, 0, none⟩) k k ∧ Blk w g 60 (flatH A).toArray)
theorem mod_nat {a b : Nat} : ((a : Int) % (b : Int)) = ((a % b : Nat) : Int) := by omega

set_option maxRecDepth 100000 in
set_option maxHeartbeats 8000000 in
theorem one_main (p q : Int) (hp : 0 ≤ p ∧ p ≤ 255) (hq : 0 ≤ q ∧ q ≤ 255) (N B : Nat) (hN : 4 + p % 13 = (N : Int)) (hB : q % (N : Int) = (B : Int)) (h4 : 4 ≤ N) (h16 : N ≤ 16) (hBN : B < N)
    (ca : Option Addr) (clen ccap : Nat) (C : List (List Value)) (xa : Option Addr) (xlen xcap : Nat) (X : List Rw) (ha : Option Addr) (hlen hcap : Nat) (H : List Hd) (w : World) (h1 : clen ≤ 40) (h2 : xlen ≤ 40) (h3 : hlen ≤ 40)
    (rc : RdCs (· < w.heap.size) w ca clen C) (rx : RdRs (· < w.heap.size) w xa xlen X) (rh : RdHs (· < w.heap.size) w ha hlen H) :
    Calls Try.prog 4 #[.agg #[.int .u8 p, .int .u8 q], .slice ca clen ccap, .agg #[.slice xa xlen xcap, .slice ha hlen hcap]] w fun e w' => e = .returned (.bool true) ∧ Below w.heap.size w w' := by
  obtain ⟨hp0, hp1⟩ := hp
  obtain ⟨hq0, hq1⟩ := hq
  have hb0 : 0 ≤ p % 13 := by omega
  have hb1 : p % 13 < 13 := by omega
  have hNm : N ≤ 1048576 := by omega
  have HR := Lib.hid (And.intro rc (And.intro rx rh))
  clear rc rx rh
  go_enter Try.func4, Try.ntmps4
  go_upto_block 0 with fail
  rw [hB]
  obtain ⟨xc, hxc⟩ : ∃ xc : Array Value, xc = #[.slice xa xlen xcap, .slice ha hlen hcap] := ⟨_, rfl⟩
  rw [← hxc]
  obtain ⟨L, hL⟩ : ∃ L, L = truL N C := ⟨_, rfl⟩
  have hLl : N = L.length := by rw [hL, truL_len]
  have hLo : ∀ x ∈ L, x.ok := by rw [hL]; exact truL_ok HR.out.1.2.1
  have hst : OT w xc N 0 L (((w.alloc (.cells #[.int .u8 p, .int .u8 q] 40)).alloc (.cells xc 43)).alloc (.cells (zrep heldZ N).toArray 60)) := by
    refine ⟨(blk_new' _ _ _ (by simp)).alloc _, ?_, (((Below.refl _ _).alloc (Nat.le_refl _) _).alloc (by simp) _).alloc (by simp; omega) _⟩
    rw [flatH_rep]
    have : parH N 0 L = List.replicate N hd0 := by simp [parH]
    rw [this]
    exact blk_new' _ _ _ (by simp)
  generalize (((w.alloc (.cells #[.int .u8 p, .int .u8 q] 40)).alloc (.cells xc 43)).alloc (.cells (zrep heldZ N).toArray 60)) = w1 at hst ⊢
  have HS := Lib.hid hst
  have HX := Lib.hid hxc
  have HL := Lib.hid (And.intro hL (And.intro hLl hLo))
  clear hst hxc hL hLl hLo hN hB
  go_cut [10] from 47 to 67 (fun s wx => OT w xc N N L wx)
  case first =>
    go_wp2_with fail
    go_loopw [10] (fun i wr => ∃ k : Nat, k ≤ N ∧ i = .int .i64 k ∧ OT w xc N k L wr) (fun i _ => N - (intOf i).toNat)
    case atStart => exact ⟨0, by omega, rfl, HS.out⟩
    case round =>
      obtain ⟨k, hk, rfl, hr⟩ := hrel
      by_cases hlt : k < N
      · by_cases hc0 : clen = 0
        · subst hc0
          have hC0 : C = [] := List.eq_nil_of_length_eq_zero HR.out.1.1
          have hend : OT w xc N N L wr := by
            obtain ⟨q1, q2, q3⟩ := hr
            refine ⟨q1, ?_, q3⟩
            have hLn := HL.out.1
            rw [hC0] at hLn
            rw [hLn, parH_nil (Nat.le_refl _)]
            rw [hLn, parH_nil hk] at q2
            exact q2
          have HE := Lib.hid hend
          clear hr hend
          go_wp2_with fail
          go_meet
          exact HE.out
        · obtain ⟨j, hj⟩ : ∃ j, j = k % clen := ⟨_, rfl⟩
          have hjl : j < clen := by rw [hj]; exact Nat.mod_lt _ (by omega)
          have hmod : ((k : Int) % (clen : Int)) = (j : Int) := by omega
          have hrc := HR.out.1.below hr.bel (fun _ _ h => h)
          obtain ⟨b, off, c, rfl, hbS, hbw, hcj, hok, hcl, hc1, e1, e2⟩ := hrc.at_ j hjl
          have hx : L[k]? = some ⟨true, c⟩ := by
            have hCn : C ≠ [] := by intro h; rw [h] at hcj; simp at hcj
            rw [HL.out.1, truL_at C hlt]
            unfold truS
            rw [if_neg hCn, HR.out.1.1, ← hj, List.getD_eq_getElem?_getD, hcj]; rfl
          obtain ⟨hcp, hput⟩ := hr.step HL.out.2.2 HL.out.2.1 hx
          have hcz : 0 < clen := by omega
          have hsz := hr.bel.size
          have hvl : (Value.bool true :: c).length = 56 := by simp [hcl]
          have HP : Hid (OT w xc N (k + 1) L (putRow wr ⟨w.heap.size + 1 + 1, k * 56, none⟩ (Value.bool true :: c))) := Lib.hid hput
          clear hr hrc hcj hok hx hput hj hbS
          go_wp2_with fail
          exact ⟨⟨k + 1, by omega, by go_num, HP.out⟩, by simp [intOf]; omega⟩
      · have hkN : k = N := by omega
        subst hkN
        have HE := Lib.hid hr
        clear hr
        go_wp2_with fail
        go_meet
        exact HE.out
  case rest =>
    have HW := Lib.hid hcut
    clear hcut
    obtain ⟨W2, rfl⟩ : ∃ W2, W2 = wc := ⟨_, rfl⟩
    have hN0 : 0 < N := by omega
    have hF : ∀ w' : World, Below W2.heap.size W2 w' → RdHs (· = w.heap.size + 1 + 1) w' (some ⟨w.heap.size + 1 + 1, 0, none⟩) N L ∧ w'.cell? ⟨w.heap.size + 1, 0, none⟩ = some (.slice xa xlen xcap) ∧ w'.cell? ⟨w.heap.size + 1, 1, none⟩ = some (.slice ha hlen hcap) ∧ RdRs (· < w.heap.size) w' xa xlen X ∧ RdHs (· < w.heap.size) w' ha hlen H ∧ Below w.heap.size w w' ∧ w.heap.size + 3 ≤ w'.heap.size := fun w' h' => by
      obtain ⟨q1, q2, q3⟩ := HW.out
      have hb := q3.trans (h'.mono q3.size)
      have hLl := HL.out.2.1
      have hp : parH N N L = L := by rw [hLl]; exact parH_end L
      rw [hp] at q2
      have q1' := q1.below h' q1.lt
      have hlt2 := q2.lt
      have hsz2 := h'.size
      refine ⟨?_, ?_, ?_, HR.out.2.1.below hb (fun _ _ h => h), HR.out.2.2.below hb (fun _ _ h => h), hb, by omega⟩
      · have := RdHs.of_blk (r := []) (by simpa using q2.below h' q2.lt) HL.out.2.2
        rw [← hLl] at this
        exact this
      · rw [q1'.cell, HX.out]; rfl
      · rw [q1'.cell, HX.out]; rfl
    have HF := Lib.hid hF
    clear hF
    obtain ⟨R, hR⟩ : ∃ R, R = rowsL N B C H := ⟨_, rfl⟩
    have HRR := Lib.hid hR
    clear hR
    have hW2 : w.heap.size + 3 ≤ W2.heap.size := (HF.out W2 (Below.refl _ _)).2.2.2.2.2.2
    go_wp2_with fail
    go_loopw [11, 12] (fun v i wr => ∃ k : Nat, k ≤ N ∧ i = .int .i64 k ∧ OS W2 62 R k v wr) (fun _ i _ => N - (intOf i).toNat)
    case atStart => exact ⟨0, by omega, rfl, OS.start _ _ _⟩
    case round =>
      obtain ⟨k, hk, rfl, hr⟩ := hrel
      by_cases hlt : k < N
      · obtain ⟨⟨ps, p1, p2, p3⟩, hB2⟩ := hr
        obtain ⟨b, off, is, n1, r, he, -, hbw, hv, hok, hlr, hlc1, h1', h2', e1, e2, -⟩ := (HF.out wr hB2).1.at_ k hlt
        cases he
        rw [Nat.zero_add] at e1 e2
        have hsz2 := hB2.size
        obtain ⟨Y, hY⟩ : ∃ Y, Y = Value.int .i64 n1 :: r := ⟨_, rfl⟩
        rw [← hY] at e2 hv hok
        have hYl : Y.length = 55 := by rw [hY]; simp [hlr]
        have hYc : Y.all cell1 = true := by rw [hY]; simpa [cell1] using hlc1
        have HB2 := Lib.hid (And.intro hB2 (And.intro p1 (And.intro p2 p3)))
        have HV := Lib.hid (And.intro hv hok)
        have HE := Lib.hid (fun (w' : World) (h : Below wr.heap.size wr w') => (show hasRow w' ⟨w.heap.size + 1 + 1, k * 56 + 1, none⟩ 55 = true ∧ rowOf w' ⟨w.heap.size + 1 + 1, k * 56 + 1, none⟩ 55 = Y from by
          have d := row_below h (p := ⟨w.heap.size + 1 + 1, k * 56 + 1, none⟩) (by simp; omega) 55
          exact ⟨d.1.trans e1, d.2.trans e2⟩))
        have HT := Lib.hid (fun (w' : World) (h : Below wr.heap.size wr w') => (HF.out w' (hB2.trans (h.mono hsz2))).1)
        have hltr : w.heap.size + 1 + 1 < wr.heap.size := by omega
        clear hB2 p1 p2 p3 h1' h2' hv hok hY hlr hlc1
        go_upto_region 14 with fail
        go_cut [13] from 73 to 80 (fun s13 wx => ∃ rb gt cp, s13 = .pointer (some ⟨rb, 0, none⟩) ∧ RB wr rb gt cp ⟨true, Y, L⟩ wx)
        case first =>
          go_region_law (first
            | (refine step_appH app_held (by rfl) (.const (.slice none 0 0)) (.tmp 78) (by rfl) wr.heap.size _ _ _ (by rfl) (World.ownsRow_nil _ _ _ _) (some ⟨w.heap.size + 1 + 1, 0, none⟩) N N L (by first | (simp; done) | (go_simp; done)) (HT.out (wr.alloc (.cells rowZ.toArray 62)).drew (((Below.refl _ _).alloc (Nat.le_refl _) _).drew)) (by omega) (by first | (simp; done) | (simp; omega) | omega) ?_; intro v1 w4 hown1 hg1 hv1; rw [Nat.zero_add, List.nil_append] at hown1; obtain ⟨gt, cp, rest, rfl, t1, t2, t3, t4⟩ := own_tab hown1 hN0 HL.out.2.1.symm HL.out.2.2; have hb4 : Below wr.heap.size wr w4 := ((((Below.refl wr.heap.size wr).alloc (Nat.le_refl _) (.cells rowZ.toArray 62)).drew).grown hg1 (by simp) (fun q hq => by cases hq)); have hbz : Blk w4 wr.heap.size 62 rowZ.toArray := (hg1.block _ (by simp) (fun h => by cases h)).trans (Blk.new wr _ _); have e3 := HE.out w4 hb4; obtain ⟨e4, e5⟩ := e3; have hcp := (hbz.whole len_rowZ).2.2; have hlt4 : w.heap.size + 1 + 1 < w4.heap.size := Nat.lt_of_lt_of_le hltr hb4.size; have H4 := Lib.hid (And.intro t1 (And.intro t2 (And.intro t3 (And.intro t4 (And.intro hb4 hbz))))); clear hown1 hv1 t1 t2 t3 t4 hg1 hb4 hbz)
            | (refine step_appH app_held (by rfl) (.const (.slice none 0 0)) (.tmp 78) (by rfl) wr.heap.size _ _ _ (by rfl) (World.ownsRow_nil _ _ _ _) (some ⟨w.heap.size + 1 + 1, 0, none⟩) N N L (by first | (simp; done) | (go_simp; done)) (HT.out wr.drew (Below.refl _ _).drew) (by omega) (by first | (simp; done) | (simp; omega) | omega) ?_; intro v1 w4 hown1 hg1 hv1; rw [Nat.zero_add, List.nil_append] at hown1; obtain ⟨gt, cp, rest, rfl, t1, t2, t3, t4⟩ := own_tab hown1 hN0 HL.out.2.1.symm HL.out.2.2; have hb4 : Below wr.heap.size wr w4 := (((Below.refl wr.heap.size wr).drew).grown hg1 (by simp) (fun q hq => by cases hq)); have e3 := HE.out w4 hb4; obtain ⟨e4, e5⟩ := e3; have hlt4 : w.heap.size + 1 + 1 < w4.heap.size := Nat.lt_of_lt_of_le hltr hb4.size; have H4 := Lib.hid (And.intro t1 (And.intro t2 (And.intro t3 (And.intro t4 hb4)))); clear hown1 hv1 t1 t2 t3 t4 hg1 hb4))
          all_goals go_wp2_with fail
          all_goals go_meet
          all_goals first
            | exact ⟨_, gt, cp, rfl, RB.newA (r := ⟨true, Y, L⟩) H4.out.1 H4.out.2.1 H4.out.2.2.1 H4.out.2.2.2.1 H4.out.2.2.2.2 ⟨HV.out.2, HL.out.2.2⟩ HL.out.2.1⟩
            | exact ⟨_, gt, cp, rfl, RB.newB (r := ⟨true, Y, L⟩) H4.out.1 H4.out.2.1 H4.out.2.2.1 H4.out.2.2.2.1 H4.out.2.2.2.2.1 H4.out.2.2.2.2.2 ⟨HV.out.2, HL.out.2.2⟩ HL.out.2.1⟩
        case rest =>
          obtain ⟨rb, gt, cp, rfl, hrb⟩ := hcut
          obtain ⟨hcp, hset⟩ := hrb.set_ (i := B) (by rw [← HL.out.2.1]; exact hBN) hd0_ok
          have hbc := hrb.b
          have f56 := (hbc.cell 56)
          rw [show ((⟨true, Y, L⟩ : Rw).vals (.slice (some ⟨gt, 0, none⟩) L.length cp)).toArray[56]? = some (.slice (some ⟨gt, 0, none⟩) N cp) from by rw [← HL.out.2.1]; simp [Rw.vals, hYl]] at f56
          rw [hd0_vals] at hset
          have hx1 := (HF.out _ (HB2.out.1.trans (hset.bel.mono hsz2))).2.2.1
          have HB5 := Lib.hid hset
          have hzl := len_heldZ
          have hzc : heldZ.all cell1 = true := by kernel_rfl
          clear hrb hset hbc e1 e2
          go_upto_if 89 with fail
          generalize putRow wc ⟨gt, B * 56, none⟩ heldZ = w5 at HB5 hx1 ⊢
          go_cut [13] from 86 to 102 (fun s13 wx => s13 = .pointer (some ⟨rb, 0, none⟩) ∧ RB wr rb gt cp ⟨true, Y, L.set B (hldS H k)⟩ wx)
          case first =>
            by_cases hh : 0 < hlen
            · obtain ⟨j, hj⟩ : ∃ j, j = k % hlen := ⟨_, rfl⟩
              have hjl : j < hlen := by rw [hj]; exact Nat.mod_lt _ hh
              have hmod : ((k : Int) % (hlen : Int)) = (j : Int) := by omega
              have htm : Int.tmod (k : Int) (hlen : Int) = (j : Int) := by rw [Int.tmod_eq_emod_of_nonneg (by omega)]; exact hmod
              have hne0 : ¬ hlen = 0 := by omega
              have hb5 := HB5.out
              obtain ⟨b', off', is', n', r', rfl, -, hbw', hv', hok', hlr', hlc', g1, g2, -⟩ := ((HF.out _ (HB2.out.1.trans (hb5.bel.mono hsz2))).2.2.2.2.1).at_ j hjl
              obtain ⟨x, hx⟩ : ∃ x : Hd, x = ⟨is', .int .i64 n' :: r'⟩ := ⟨_, rfl⟩
              rw [← hx] at hv'
              have hxo : x.ok := by rw [hx]; exact hok'
              rw [show Value.bool is' :: Value.int .i64 n' :: r' = x.vals from by rw [hx]; rfl] at g2
              obtain ⟨hcp', hset'⟩ := hb5.set_ (i := B) (x := x) (by simp; rw [← HL.out.2.1]; exact hBN) hxo
              have hxk : hldS H k = x := by
                have hHn : H ≠ [] := by intro h; rw [h] at hv'; simp at hv'
                unfold hldS
                rw [if_neg hHn, HR.out.2.2.1, ← hj, List.getD_eq_getElem?_getD, hv']; rfl
              have f57 := hb5.b.cell 56
              rw [show ((⟨true, Y, L.set B hd0⟩ : Rw).vals (.slice (some ⟨gt, 0, none⟩) (L.set B hd0).length cp)).toArray[56]? = some (.slice (some ⟨gt, 0, none⟩) N cp) from by rw [List.length_set, ← HL.out.2.1]; simp [Rw.vals, hYl]] at f57
              simp only [List.set_set] at hset'
              rw [← hxk] at hset'
              have hxl := Hd.vals_len hxo
              have hxc := hd_cell1 hxo
              obtain ⟨xv, hxv⟩ : ∃ xv, xv = x.vals := ⟨_, rfl⟩
              rw [← hxv] at g2 hxl hxc
              have hset2 : RB wr rb gt cp ⟨true, Y, L.set B (hldS H k)⟩ (putRow w5 ⟨gt, B * 56, none⟩ xv) := by rw [hxv, ← hxk]; exact hset'
              have HB6 := Lib.hid hset2
              clear hset' hset2 hb5 hv' hok' hlr' hlc' hx hxo hxv hxk hj
              go_upto_region 17 with fail
              go_region_law (first | fail)
              all_goals go_wp2_with fail
              all_goals go_meet
              all_goals exact ⟨rfl, HB6.out.drew⟩
            · have hH0 : Hid (hldS H k = hd0) := Lib.hid (by
                have hHn : H = [] := List.eq_nil_of_length_eq_zero (by have := HR.out.2.2.1; omega)
                rw [hHn]; rfl)
              go_wp2_with fail
              go_meet
              exact ⟨rfl, by rw [hH0.out]; exact HB5.out⟩
          case rest =>
            obtain ⟨rfl, hr6⟩ := hcut
            have HB7 := Lib.hid hr6
            clear hr6
            obtain ⟨rr, hrr⟩ : ∃ rr : Rw, rr = ⟨true, Y, L.set B (hldS H k)⟩ := ⟨_, rfl⟩
            rw [← hrr] at HB7
            have hyR : R[k]? = some rr := by
              have hYe : Y = (truS C k).c := by
                have := HV.out.1
                rw [HL.out.1, truL_at C hlt] at this
                simp only [Option.some.injEq] at this
                rw [this]
              rw [HRR.out, rowsL_at B C H hlt, hrr, hYe, HL.out.1]; rfl
            have hro := HB7.out.ok
            have hrowR := HB7.out.row
            obtain ⟨tv, htv⟩ : ∃ tv, tv = Value.slice (some ⟨gt, 0, none⟩) rr.t.length cp := ⟨_, rfl⟩
            have hbk := HB7.out.b
            rw [← htv] at hrowR hbk
            obtain ⟨-, -, -, -, d1, d2, -⟩ := blk_row hbk hro
            have hyl := Rw.len hro tv
            have hyc := hrowR.cell1 hro
            have hown : wc.ownsRow W2.heap.size 62 57 u11 k (flatP ps) := by
              have p3 := HB2.out.2.2.2
              rw [← HB2.out.2.1]
              exact own_block p3.1 (fun q hq => HB7.out.bel.block q (p3.1.lt q hq).2)
            have HO5 := Lib.hid hown
            have HRW := Lib.hid (And.intro hyR (And.intro hro hrowR))
            have hszc := HB7.out.bel.size
            clear hyR hro hrowR hbk hown htv hrr hx1 hcp f56 hltr HE HT HV hYl hYc
            go_wp2_with (at_builtin; refine wpList_lies app_row (by rfl) (.tmp 103) (.tmp 105) (by rfl) W2.heap.size _ _ _ (by rfl) (HO5.out.alloc _) ⟨wc.heap.size, 0, none⟩ 1 1 (rr.vals tv) (by rfl) (by simp [hyl]) (hasRow_new wc _ _ 0 57 (by simp [hyl])) ((rowOf_new wc _ _ 0 57 (by simp [hyl])).trans (List.take_of_length_le (by simp [hyl]))) hyc (by omega) (by omega) (by simp; omega) ?_; intro gg cpp w7 hown1 hgrow hlie; have H8 := Lib.hid (And.intro hown1 (And.intro hgrow hlie)); clear hown1 hgrow hlie)
            exact ⟨⟨k + 1, by omega, by go_num, OS.step HB2.out.1 HB2.out.2.1 HB2.out.2.2.1 HB2.out.2.2.2 (HB7.out.bel.alloc HB7.out.bel.size _) HRW.out.2.1 HRW.out.1 (HRW.out.2.2.below ((Below.refl _ _).alloc (Nat.le_refl _) _)) H8.out.1 H8.out.2.1 H8.out.2.2⟩, by simp [intOf]; omega⟩
      · have hkN : k = N := by omega
        subst hkN
        have HO := Lib.hid hr
        clear hr
        obtain ⟨⟨ps, p1, p2, p3⟩, hB3⟩ := HO.out
        obtain ⟨W3, rfl⟩ : ∃ W3, W3 = wr := ⟨_, rfl⟩
        have hsz3 := hB3.size
        obtain ⟨A, hA⟩ : ∃ A, A = oneV k B C H := ⟨_, rfl⟩
        obtain ⟨gr, capr, curr, rfl, r1, r2, r3, r4, r5, r6⟩ : ∃ g cap cur, u11 = Value.slice (some ⟨g, 0, none⟩) k cap ∧ W2.heap.size ≤ g ∧ Blk W3 g 62 cur ∧ k ≤ cap ∧ cap ≤ maxLen ∧ cur.size = cap * 57 ∧ cur.toList.take (k * 57) = flatP ps := by
          rcases p3.1.2 with ⟨-, h⟩ | ⟨g, cap, cur, h⟩
          · omega
          · rw [p1] at h; exact ⟨g, cap, cur, h⟩
        have hAl : A.length = k := by rw [hA, oneV_len]
        have hAo : ∀ x ∈ A, x.ok := by rw [hA]; exact oneV_ok HR.out.1.2.1
        have hpsm : ps.map Prod.fst = rowsL k B C H := by
          rw [p2, HRR.out, List.take_of_length_le (by rw [rowsL_len]; exact Nat.le_refl _)]
        have HPS := Lib.hid (And.intro p1 (And.intro hpsm (And.intro p3 (And.intro r2 (And.intro r5 (And.intro r6 hB3))))))
        have HA := Lib.hid (And.intro hA (And.intro hAl hAo))
        clear p1 p2 p3 hB3 r2 r5 r6 hA hAl hAo hpsm HO
        have HB0 := Lib.hid (Below.refl W3.heap.size W3)
        go_wp2_with fail
        go_loopw [14, 15] (fun f i wr => ∃ m : Nat, m ≤ k ∧ i = .int .i64 m ∧ Below W3.heap.size W3 wr ∧ (f = .slice none 0 0 ∨ ∃ g, f = .slice (some ⟨g, 0, none⟩) k k ∧ Blk wr g 60 (flatH A).toArray)) (fun _ i _ => k - (intOf i).toNat)
        case atStart => exact ⟨0, by omega, rfl, HB0.out, .inl rfl⟩
        case round =>
          obtain ⟨m, hm, rfl, hB4, hf⟩ := hrel
          have HBf := Lib.hid (And.intro hB4 hf)
          clear hB4 hf
          by_cases hlm : m < k
          · by_cases hmB : m = B
            · have hmb : ((m : Int) == (B : Int)) = true := by simp; omega
              have HMB := Lib.hid hmB
              clear hmB
              go_wp2_with fail
              exact ⟨⟨m + 1, by omega, by go_num, HBf.out⟩, by simp [intOf]; omega⟩
            · have hmb : ((m : Int) == (B : Int)) = false := by simp; omega
              obtain ⟨hb1', hb2'⟩ := blk_part (HPS.out.2.2.2.1.below HBf.out.1 HPS.out.2.2.2.1.lt) (n := k * 57) (by rw [HPS.out.2.2.2.2.1]; exact Nat.mul_le_mul_right _ r3) HPS.out.2.2.2.2.2.1
              have hp4 : ∀ p ∈ ps, p.1.ok ∧ RowR (· < wr.heap.size) wr p.1 p.2 := fun p hp => ⟨(HPS.out.2.2.1.2 p hp).1, ((HPS.out.2.2.1.2 p hp).2.below HBf.out.1).mono (fun b hb _ => hb)⟩
              have hfl : (flatP ps).length = k * 57 := by rw [len_flatP (fun p hp => (hp4 p hp).1), HPS.out.1]
              have hfc := flatP_cell1 hp4
              have HP4 := Lib.hid hp4
              clear hp4
              have hBk : B < ps.length := by rw [HPS.out.1]; exact hBN
              have hzr := len_rowZ
              have hzrc : rowZ.all cell1 = true := by kernel_rfl
              go_upto_if 124 with (at_builtin; refine wpList_lies app_row (by rfl) (.const (.slice none 0 0)) (.tmp 115) (by rfl) wr.heap.size _ _ _ (by rfl) (World.ownsRow_nil _ _ _ _) ⟨gr, 0, none⟩ k capr (flatP ps) (by first | rfl | (simp; done) | go_simp) hfl hb1' hb2' hfc (by omega) (by omega) (Nat.le_refl _) ?_; intro gg cpp w7 hown1 hgrow hlie; rw [Nat.zero_add, List.nil_append] at hown1; obtain ⟨hc1, hc2⟩ := own_cap hown1; have hB7 : Below wr.heap.size wr w7 := (Below.refl _ _).grown hgrow (Nat.le_refl _) (fun q hq => by cases hq); have hgg : gg = wr.heap.size := (hlie.elim (fun h => by cases h) id); have hH : HB wr gg (· < wr.heap.size) ps w7 := HB.of_own hown1 (fun p hp => ⟨(HP4.out p hp).1, (HP4.out p hp).2.below hB7⟩) (by omega) (by omega) hB7; obtain ⟨hcp, hH2⟩ := hH.set_ hBk rw0_ok (rw0_row _ _); rw [rw0_vals] at hH2; have hx1 := (HF.out _ (HPS.out.2.2.2.2.2.2.trans ((HBf.out.1.trans (hH2.bel.mono HBf.out.1.size)).mono hsz3))).2.1; have H8 := Lib.hid hH2; clear hown1 hgrow hlie hB7 hgg hH hH2; rw [Nat.zero_add])
              generalize putRow w7 ⟨gg, B * 57, none⟩ rowZ = w8 at H8 hx1 ⊢
              go_cut [16] from 121 to 136 (fun s16 wx => s16 = .slice (some ⟨gg, 0, none⟩) k cpp ∧ ∃ tv, HB wr gg (· < wr.heap.size) (ps.set B (badS X m, tv)) wx)
              case first =>
                by_cases hh : 0 < xlen
                · obtain ⟨j, hj⟩ : ∃ j, j = m % xlen := ⟨_, rfl⟩
                  have hjl : j < xlen := by rw [hj]; exact Nat.mod_lt _ hh
                  have hmod : ((m : Int) % (xlen : Int)) = (j : Int) := by omega
                  have htm : Int.tmod (m : Int) (xlen : Int) = (j : Int) := by rw [Int.tmod_eq_emod_of_nonneg (by omega)]; exact hmod
                  have hne0 : ¬ xlen = 0 := by omega
                  have hb8 := H8.out
                  have hsw : w.heap.size ≤ wr.heap.size := by have := HBf.out.1.size; omega
                  obtain ⟨b', off', x', m', cp', r', rfl, hS', hbw', hv', hok', hlr', hlc', g1, g2, -, -, g5, g6, g7⟩ := ((HF.out _ (HPS.out.2.2.2.2.2.2.trans ((HBf.out.1.trans (hb8.bel.mono HBf.out.1.size)).mono hsz3))).2.2.2.1).at_ j hjl
                  obtain ⟨tv, htv⟩ : ∃ tv, tv = Value.slice x' m' cp' := ⟨_, rfl⟩
                  have hrw : RowR (· < wr.heap.size) w8 r' tv := ⟨x', m', cp', htv, g5.mono (fun b _ hb => by omega), g6, g7⟩
                  obtain ⟨hcp', hset'⟩ := hb8.set_ (i := B) (by rw [List.length_set]; exact hBk) hok' hrw
                  have hxk : badS X m = r' := by
                    have hXn : X ≠ [] := by intro h; rw [h] at hv'; simp at hv'
                    unfold badS
                    rw [if_neg hXn, HR.out.2.1.1, ← hj, List.getD_eq_getElem?_getD, hv']; rfl
                  simp only [List.set_set] at hset'
                  rw [← hxk] at hset'
                  have hxl := Rw.len hok' tv
                  have hxc := hrw.cell1 hok'
                  rw [← htv] at g2
                  obtain ⟨xv, hxv⟩ : ∃ xv, xv = r'.vals tv := ⟨_, rfl⟩
                  have g3 : rowOf w8 ⟨b', off' + j * 57, none⟩ 57 = xv := by rw [hxv]; exact g2
                  rw [← hxv] at hxl hxc
                  have hset2 : HB wr gg (· < wr.heap.size) (ps.set B (badS X m, tv)) (putRow w8 ⟨gg, B * 57, none⟩ xv) := by rw [hxv, ← hxk]; exact hset'
                  have HB6 := Lib.hid hset2
                  clear hset' hset2 hb8 hv' hok' hlr' hlc' htv hxv hxk hj g2 g5 g6 g7 hrw hS'
                  go_upto_region 27 with fail
                  go_region_law (first | fail)
                  all_goals go_wp2_with fail
                  all_goals go_meet
                  all_goals exact ⟨rfl, _, HB6.out.drew⟩
                · have hX0 : Hid (badS X m = rw0) := Lib.hid (by
                    have hXn : X = [] := List.eq_nil_of_length_eq_zero (by have := HR.out.2.1.1; omega)
                    rw [hXn]; rfl)
                  go_wp2_with fail
                  go_meet
                  exact ⟨rfl, _, by rw [hX0.out]; exact H8.out⟩
              case rest =>
                obtain ⟨rfl, tv, hb9⟩ := hcut
                have hrd := hb9.rd
                rw [List.length_set, HPS.out.1, List.map_set, HPS.out.2.1] at hrd
                have hAg := agree_any _ k (some ⟨gg, 0, none⟩) k cpp _ wc hrd hc1 hc2
                rw [show agreeL (k : Int) ((rowsL k B C H).set B (badS X m)) = A from (agree_held h4 h16 hBN HR.out.1.2.1 m).trans HA.out.1.symm] at hAg
                have HAg := Lib.hid hAg
                have hb9b := Lib.hid hb9.bel
                have H9 := Lib.hid (HBf.out.1.trans (hb9.bel.mono HBf.out.1.size))
                clear hAg hrd hb9 hx1 H8 hcp hc2
                go_wp2_with fail
                (with_reducible refine HAg.out.mono ?_)
                rintro e w9 ⟨⟨v, rfl, hvv⟩, hb10⟩
                obtain ⟨gv, rfl, hbv⟩ := hvv.blk (by intro h; have := HA.out.2.1; rw [h] at this; simp at this; omega)
                rw [HA.out.2.1]
                have H10 := Lib.hid (And.intro (H9.out.trans (hb10.mono H9.out.size)) (And.intro hbv (show u14 = .slice none 0 0 ∨ ∃ g, u14 = .slice (some ⟨g, 0, none⟩) k k ∧ Blk w9 g 60 (flatH A).toArray from by
                  rcases HBf.out.2 with h | ⟨g, h1, h2⟩
                  · exact .inl h
                  · exact .inr ⟨g, h1, (h2.below (hb9b.out) h2.lt).below hb10 (Nat.lt_of_lt_of_le h2.lt hb9b.out.size)⟩)))
                clear hvv hb10 hbv hb9b H9 HAg
                go_upto_region 31 with fail
                go_cut [145] from 140 to 145 (fun sb wx => ∃ qb : Bool, sb = .bool qb ∧ w9 = wx ∧ FstR A k u14 wx qb)
                case first =>
                  rcases H10.out.2.2 with rfl | ⟨g, rfl, hgb⟩
                  · go_wp2_with fail
                    go_meet
                    exact ⟨true, rfl, rfl, .inl ⟨rfl, rfl⟩⟩
                  · have HG := Lib.hid hgb
                    clear hgb
                    go_wp2_with fail
                    go_meet
                    exact ⟨false, rfl, rfl, .inr ⟨rfl, _, rfl, HG.out⟩⟩
                case rest =>
                  obtain ⟨qb, rfl, rfl, hfst⟩ := hcut
                  have HFS := Lib.hid hfst
                  clear hfst
                  go_upto_if 145 with fail
                  go_cut [14] from 146 to 146 (fun sf wx => w9 = wx ∧ ∃ g, sf = .slice (some ⟨g, 0, none⟩) k k ∧ Blk w9 g 60 (flatH A).toArray)
                  case first =>
                    rcases HFS.out with ⟨rfl, h2⟩ | ⟨rfl, g, h2, hgb⟩
                    · clear h2
                      go_wp2_with fail
                      go_meet
                      exact ⟨rfl, _, rfl, H10.out.2.1⟩
                    · subst h2
                      have HG := Lib.hid hgb
                      clear hgb
                      go_wp2_with fail
                      go_meet
                      exact ⟨rfl, _, rfl, HG.out⟩
                  case rest =>
                    obtain ⟨rfl, gf, rfl, hgf⟩ := hcut
                    have hA1 := HA.out.2.2
                    have hT1 := HF.out w9 (HPS.out.2.2.2.2.2.2.trans (H10.out.1.mono hsz3))
                    have hFX : ∀ (w' : World) (t : Nat) (x y : Hd), Below w9.heap.size w9 w' → A[t]? = some x → L[t]? = some y → hasRow w' ⟨gv, t * 56, none⟩ 56 = true ∧ rowOf w' ⟨gv, t * 56, none⟩ 56 = x.vals ∧ hasRow w' ⟨gf, t * 56, none⟩ 56 = true ∧ rowOf w' ⟨gf, t * 56, none⟩ 56 = x.vals ∧ hasRow w' ⟨w.heap.size + 1 + 1, t * 56, none⟩ 56 = true ∧ rowOf w' ⟨w.heap.size + 1 + 1, t * 56, none⟩ 56 = y.vals := fun w' t x y hb hx hy => by
                      obtain ⟨q1, q2⟩ := blk_hd (H10.out.2.1.below hb H10.out.2.1.lt) HA.out.2.2 hx
                      obtain ⟨q3, q4⟩ := blk_hd (hgf.below hb hgf.lt) HA.out.2.2 hx
                      have hTT := (HF.out w' (HPS.out.2.2.2.2.2.2.trans ((H10.out.1.trans (hb.mono H10.out.1.size)).mono hsz3))).1
                      have hyl := (List.getElem?_eq_some_iff.1 hy).1
                      obtain ⟨b, off, is, n, r, he, -, hbw, hl, -, -, -, e1, e2, -⟩ := hTT.at_ t (by have := HL.out.2.1; omega)
                      cases he
                      rw [Nat.zero_add] at e1 e2
                      rw [hy] at hl
                      cases hl
                      exact ⟨q1, q2, q3, q4, e1, e2⟩
                    have hEQ : ∀ (t : Nat), t < k → ∃ x y : Hd, A[t]? = some x ∧ L[t]? = some y ∧ (t ≠ B → y = x) := fun t ht => by
                      refine ⟨A[t]'(by rw [HA.out.2.1]; exact ht), truS C t, List.getElem?_eq_getElem _, by rw [HL.out.1]; exact truL_at C ht, fun hne => ?_⟩
                      have h1 := oneV_at B C H ht hne
                      rw [← HA.out.1, List.getElem?_eq_getElem (by rw [HA.out.2.1]; exact ht)] at h1
                      exact (Option.some.inj h1).symm
                    have HFX := Lib.hid hFX
                    have HEQ := Lib.hid hEQ
                    have HGF := Lib.hid hgf
                    have HB9 := Lib.hid (Below.refl w9.heap.size w9)
                    clear hFX hEQ hA1 hT1 hgf
                    go_wp2_with fail
                    go_loopw [18] (fun i wr => ∃ t : Nat, t ≤ k ∧ i = .int .i64 t ∧ Below w9.heap.size w9 wr) (fun i _ => k - (intOf i).toNat)
                    case atStart => exact ⟨0, by omega, rfl, HB9.out⟩
                    case round =>
                      obtain ⟨t, ht, rfl, hB⟩ := hrel
                      by_cases hlt : t < k
                      · obtain ⟨x, y, hx, hy, hxy⟩ := HEQ.out t hlt
                        obtain ⟨e1, e2, e3, e4, e5, e6⟩ := HFX.out wr t x y hB hx hy
                        obtain ⟨X1, hX1⟩ : ∃ X1, X1 = x.vals := ⟨_, rfl⟩
                        obtain ⟨Z1, hZ1⟩ : ∃ Z1, Z1 = y.vals := ⟨_, rfl⟩
                        have hkx := Hd.vals_ok (HA.out.2.2 x (List.mem_of_getElem? hx))
                        have hky := Hd.vals_ok (HL.out.2.2 y (List.mem_of_getElem? hy))
                        rw [← hX1] at e2 e4 hkx
                        rw [← hZ1] at e6 hky
                        have HBB := Lib.hid hB
                        clear hB hx hy
                        by_cases htB : t = B
                        · have hsb : ((t : Int) != (B : Int)) = false := by simp; omega
                          have hse : ((t : Int) == (B : Int)) = true := by simp; omega
                          clear hX1 hZ1 hxy htB
                          go_upto_region 36 with fail
                          refine wp_region_held_drew (S := fun w' => hasRow w' ⟨gv, t * 56, none⟩ 56 = true ∧ rowOf w' ⟨gv, t * 56, none⟩ 56 = X1 ∧ hasRow w' ⟨gf, t * 56, none⟩ 56 = true ∧ rowOf w' ⟨gf, t * 56, none⟩ 56 = X1 ∧ hasRow w' ⟨w.heap.size + 1 + 1, t * 56, none⟩ 56 = true ∧ rowOf w' ⟨w.heap.size + 1 + 1, t * 56, none⟩ 56 = Z1) (by kernel_rfl) ?_ (fun hHeld => ?_)
                          · exact ⟨e1, e2, e3, e4, e5, e6⟩
                          refine wpAnyH_take (i := 0) (oi := ?_) (v := ?_) ?_ (by kernel_rfl) (by kernel_rfl) (by kernel_rfl) ?_ (Or.inl ⟨?_, ?_⟩) (by assumption) ?_
                          rotate_left 2
                          · simp only [List.getElem?_toArray, List.getElem?_cons_zero, List.getElem?_cons_succ]; rfl
                          · exact fun _ _ _ h => h
                          · rfl
                          · intro w' hSw; (try dsimp only at hSw); (first | (go_simp; done) | (go_simp; with_reducible rfl))
                          try simp only [Act.put, List.setIfInBounds_toArray, List.set_cons_zero, List.set_cons_succ]
                          refine wpAnyH_take (i := 1) (oi := ?_) (v := ?_) ?_ (by kernel_rfl) (by kernel_rfl) (by kernel_rfl) ?_ (Or.inl ⟨?_, ?_⟩) (by assumption) ?_
                          rotate_left 2
                          · simp only [List.getElem?_toArray, List.getElem?_cons_zero, List.getElem?_cons_succ]; rfl
                          · exact fun _ _ _ h => h
                          · rfl
                          · intro w' hSw; (try dsimp only at hSw); (first | (go_simp; done) | (go_simp; with_reducible rfl))
                          try simp only [Act.put, List.setIfInBounds_toArray, List.set_cons_zero, List.set_cons_succ]
                          refine wpAnyH_take (i := 2) (oi := ?_) (v := ?_) ?_ (by kernel_rfl) (by kernel_rfl) (by kernel_rfl) ?_ (Or.inl ⟨?_, ?_⟩) (by assumption) ?_
                          rotate_left 2
                          · simp only [List.getElem?_toArray, List.getElem?_cons_zero, List.getElem?_cons_succ]; rfl
                          · exact fun _ _ _ h => h
                          · rfl
                          · intro w' hSw; (try dsimp only at hSw); (first | (go_simp; done) | (go_simp; with_reducible rfl))
                          try simp only [Act.put, List.setIfInBounds_toArray, List.set_cons_zero, List.set_cons_succ]
                          refine wpAnyH_take (i := 3) (oi := ?_) (v := ?_) ?_ (by kernel_rfl) (by kernel_rfl) (by kernel_rfl) ?_ (Or.inl ⟨?_, ?_⟩) (by assumption) ?_
                          rotate_left 2
                          · simp only [List.getElem?_toArray, List.getElem?_cons_zero, List.getElem?_cons_succ]; rfl
                          · exact fun _ _ _ h => h
                          · rfl
                          · intro w' hSw; (try dsimp only at hSw); (first | (go_simp; done) | (go_simp; with_reducible rfl))
                          try simp only [Act.put, List.setIfInBounds_toArray, List.set_cons_zero, List.set_cons_succ]
                          refine wpAnyH_take (i := 4) (oi := ?_) (v := ?_) ?_ (by kernel_rfl) (by kernel_rfl) (by kernel_rfl) ?_ (Or.inl ⟨?_, ?_⟩) (by assumption) ?_
                          rotate_left 2
                          · simp only [List.getElem?_toArray, List.getElem?_cons_zero, List.getElem?_cons_succ]; rfl
                          · exact fun _ _ _ h => h
                          · rfl
                          · intro w' hSw; (try dsimp only at hSw); (first | (go_simp; done) | (go_simp; with_reducible rfl))
                          try simp only [Act.put, List.setIfInBounds_toArray, List.set_cons_zero, List.set_cons_succ]
                          refine wpAnyH_take (i := 5) (oi := ?_) (v := ?_) ?_ (by kernel_rfl) (by kernel_rfl) (by kernel_rfl) ?_ (Or.inl ⟨?_, ?_⟩) (by assumption) ?_
                          rotate_left 2
                          · simp only [List.getElem?_toArray, List.getElem?_cons_zero, List.getElem?_cons_succ]; rfl
                          · exact fun _ _ _ h => h
                          · rfl
                          · intro w' hSw; (try dsimp only at hSw); (first | (go_simp; done) | (go_simp; with_reducible rfl))
                          try simp only [Act.put, List.setIfInBounds_toArray, List.set_cons_zero, List.set_cons_succ]
                          refine wpAnyH_take (i := 6) (oi := ?_) (v := ?_) ?_ (by kernel_rfl) (by kernel_rfl) (by kernel_rfl) ?_ (Or.inl ⟨?_, ?_⟩) (by assumption) ?_
                          rotate_left 2
                          · simp only [List.getElem?_toArray, List.getElem?_cons_zero, List.getElem?_cons_succ]; rfl
                          · exact fun _ _ _ h => h
                          · rfl
                          · intro w' hSw; (try dsimp only at hSw); (first | (go_simp; done) | (go_simp; with_reducible rfl))
                          try simp only [Act.put, List.setIfInBounds_toArray, List.set_cons_zero, List.set_cons_succ]
                          refine wpAnyH_take (i := 7) (oi := ?_) (v := ?_) ?_ (by kernel_rfl) (by kernel_rfl) (by kernel_rfl) ?_ (Or.inl ⟨?_, ?_⟩) (by assumption) ?_
                          rotate_left 2
                          · simp only [List.getElem?_toArray, List.getElem?_cons_zero, List.getElem?_cons_succ]; rfl
                          · exact fun _ _ _ h => h
                          · rfl
                          · intro w' hSw; (try dsimp only at hSw); (first | (go_simp; done) | (go_simp; with_reducible rfl))
                          try simp only [Act.put, List.setIfInBounds_toArray, List.set_cons_zero, List.set_cons_succ]
                          refine wpAnyH_take (i := 8) (oi := ?_) (v := ?_) ?_ (by kernel_rfl) (by kernel_rfl) (by kernel_rfl) ?_ (Or.inl ⟨?_, ?_⟩) (by assumption) ?_
                          rotate_left 2
                          · simp only [List.getElem?_toArray, List.getElem?_cons_zero, List.getElem?_cons_succ]; rfl
                          · exact fun _ _ _ h => h
                          · rfl
                          · intro w' hSw; (try dsimp only at hSw); (first | (go_simp; done) | (go_simp; with_reducible rfl))
                          try simp only [Act.put, List.setIfInBounds_toArray, List.set_cons_zero, List.set_cons_succ]
                          refine wpAnyH_take (i := 9) (oi := ?_) (v := ?_) ?_ (by kernel_rfl) (by kernel_rfl) (by kernel_rfl) ?_ (Or.inl ⟨?_, ?_⟩) (by assumption) ?_
                          rotate_left 2
                          · simp only [List.getElem?_toArray, List.getElem?_cons_zero, List.getElem?_cons_succ]; rfl
                          · exact fun _ _ _ h => h
                          · rfl
                          · intro w' hSw; (try dsimp only at hSw); (first | (go_simp; done) | (go_simp; with_reducible rfl))
                          try simp only [Act.put, List.setIfInBounds_toArray, List.set_cons_zero, List.set_cons_succ]
                          refine wpAnyH_take (i := 10) (oi := ?_) (v := ?_) ?_ (by kernel_rfl) (by kernel_rfl) (by kernel_rfl) ?_ (Or.inl ⟨?_, ?_⟩) (by assumption) ?_
                          rotate_left 2
                          · simp only [List.getElem?_toArray, List.getElem?_cons_zero, List.getElem?_cons_succ]; rfl
                          · exact fun _ _ _ h => h
                          · rfl
                          · intro w' hSw; (try dsimp only at hSw); (first | (go_simp; done) | (go_simp; with_reducible rfl))
                          try simp only [Act.put, List.setIfInBounds_toArray, List.set_cons_zero, List.set_cons_succ]
                          refine wpAnyH_take (i := 11) (oi := ?_) (v := ?_) ?_ (by kernel_rfl) (by kernel_rfl) (by kernel_rfl) ?_ (Or.inl ⟨?_, ?_⟩) (by assumption) ?_
                          rotate_left 2
                          · simp only [List.getElem?_toArray, List.getElem?_cons_zero, List.getElem?_cons_succ]; rfl
                          · exact fun _ _ _ h => h
                          · rfl
                          · intro w' hSw; (try dsimp only at hSw); (first | (go_simp; done) | (go_simp; with_reducible rfl))
                          try simp only [Act.put, List.setIfInBounds_toArray, List.set_cons_zero, List.set_cons_succ]
                          refine wpAnyH_take (i := 12) (oi := ?_) (v := ?_) ?_ (by kernel_rfl) (by kernel_rfl) (by kernel_rfl) ?_ (Or.inl ⟨?_, ?_⟩) (by assumption) ?_
                          rotate_left 2
                          · simp only [List.getElem?_toArray, List.getElem?_cons_zero, List.getElem?_cons_succ]; rfl
                          · exact fun _ _ _ h => h
                          · rfl
                          · intro w' hSw; (try dsimp only at hSw); (first | (go_simp; done) | (go_simp; with_reducible rfl))
                          try simp only [Act.put, List.setIfInBounds_toArray, List.set_cons_zero, List.set_cons_succ]
                          refine wpAnyH_take (i := 13) (oi := ?_) (v := ?_) ?_ (by kernel_rfl) (by kernel_rfl) (by kernel_rfl) ?_ (Or.inl ⟨?_, ?_⟩) (by assumption) ?_
                          rotate_left 2
                          · simp only [List.getElem?_toArray, List.getElem?_cons_zero, List.getElem?_cons_succ]; rfl
                          · exact fun _ _ _ h => h
                          · rfl
                          · intro w' hSw; (try dsimp only at hSw); (first | (go_simp; done) | (go_simp; with_reducible rfl))
                          try simp only [Act.put, List.setIfInBounds_toArray, List.set_cons_zero, List.set_cons_succ]
                          refine wpAnyH_take (i := 14) (oi := ?_) (v := undef) ?_ (by kernel_rfl) (by kernel_rfl) (by kernel_rfl) ?_ (Or.inr ⟨?_, rfl⟩) (by assumption) ?_
                          rotate_left 1
                          · simp only [List.getElem?_toArray, List.getElem?_cons_zero, List.getElem?_cons_succ]; rfl
                          · exact fun _ _ _ h => h
                          · rfl
                          try simp only [Act.put, List.setIfInBounds_toArray, List.set_cons_zero, List.set_cons_succ]
                          refine wpAnyH_take (i := 15) (oi := ?_) (v := undef) ?_ (by kernel_rfl) (by kernel_rfl) (by kernel_rfl) ?_ (Or.inr ⟨?_, rfl⟩) (by assumption) ?_
                          rotate_left 1
                          · simp only [List.getElem?_toArray, List.getElem?_cons_zero, List.getElem?_cons_succ]; rfl
                          · exact fun _ _ _ h => h
                          · rfl
                          try simp only [Act.put, List.setIfInBounds_toArray, List.set_cons_zero, List.set_cons_succ]
                          refine wpAnyH_take (i := 16) (oi := ?_) (v := undef) ?_ (by kernel_rfl) (by kernel_rfl) (by kernel_rfl) ?_ (Or.inr ⟨?_, rfl⟩) (by assumption) ?_
                          rotate_left 1
                          · simp only [List.getElem?_toArray, List.getElem?_cons_zero, List.getElem?_cons_succ]; rfl
                          · exact fun _ _ _ h => h
                          · rfl
                          try simp only [Act.put, List.setIfInBounds_toArray, List.set_cons_zero, List.set_cons_succ]
                          refine wpAnyH_take (i := 17) (oi := ?_) (v := undef) ?_ (by kernel_rfl) (by kernel_rfl) (by kernel_rfl) ?_ (Or.inr ⟨?_, rfl⟩) (by assumption) ?_
                          rotate_left 1
                          · simp only [List.getElem?_toArray, List.getElem?_cons_zero, List.getElem?_cons_succ]; rfl
                          · exact fun _ _ _ h => h
                          · rfl
                          try simp only [Act.put, List.setIfInBounds_toArray, List.set_cons_zero, List.set_cons_succ]
                          refine wpAnyH_take (i := 18) (oi := ?_) (v := undef) ?_ (by kernel_rfl) (by kernel_rfl) (by kernel_rfl) ?_ (Or.inr ⟨?_, rfl⟩) (by assumption) ?_
                          rotate_left 1
                          · simp only [List.getElem?_toArray, List.getElem?_cons_zero, List.getElem?_cons_succ]; rfl
                          · exact fun _ _ _ h => h
                          · rfl
                          try simp only [Act.put, List.setIfInBounds_toArray, List.set_cons_zero, List.set_cons_succ]
                          refine wpAnyH_take (i := 19) (oi := ?_) (v := undef) ?_ (by kernel_rfl) (by kernel_rfl) (by kernel_rfl) ?_ (Or.inr ⟨?_, rfl⟩) (by assumption) ?_
                          rotate_left 1
                          · simp only [List.getElem?_toArray, List.getElem?_cons_zero, List.getElem?_cons_succ]; rfl
                          · exact fun _ _ _ h => h
                          · rfl
                          try simp only [Act.put, List.setIfInBounds_toArray, List.set_cons_zero, List.set_cons_succ]
                          refine wpAnyH_take (i := 20) (oi := ?_) (v := undef) ?_ (by kernel_rfl) (by kernel_rfl) (by kernel_rfl) ?_ (Or.inr ⟨?_, rfl⟩) (by assumption) ?_
                          rotate_left 1
                          · simp only [List.getElem?_toArray, List.getElem?_cons_zero, List.getElem?_cons_succ]; rfl
                          · exact fun _ _ _ h => h
                          · rfl
                          try simp only [Act.put, List.setIfInBounds_toArray, List.set_cons_zero, List.set_cons_succ]
                          refine wpAnyH_take (i := 21) (oi := ?_) (v := undef) ?_ (by kernel_rfl) (by kernel_rfl) (by kernel_rfl) ?_ (Or.inr ⟨?_, rfl⟩) (by assumption) ?_
                          rotate_left 1
                          · simp only [List.getElem?_toArray, List.getElem?_cons_zero, List.getElem?_cons_succ]; rfl
                          · exact fun _ _ _ h => h
                          · rfl
                          try simp only [Act.put, List.setIfInBounds_toArray, List.set_cons_zero, List.set_cons_succ]
                          refine wpAnyH_take (i := 22) (oi := ?_) (v := undef) ?_ (by kernel_rfl) (by kernel_rfl) (by kernel_rfl) ?_ (Or.inr ⟨?_, rfl⟩) (by assumption) ?_
                          rotate_left 1
                          · simp only [List.getElem?_toArray, List.getElem?_cons_zero, List.getElem?_cons_succ]; rfl
                          · exact fun _ _ _ h => h
                          · rfl
                          try simp only [Act.put, List.setIfInBounds_toArray, List.set_cons_zero, List.set_cons_succ]
                          refine wpAnyH_take (i := 23) (oi := ?_) (v := ?_) ?_ (by kernel_rfl) (by kernel_rfl) (by kernel_rfl) ?_ (Or.inl ⟨?_, ?_⟩) (by assumption) ?_
                          rotate_left 2
                          · simp only [List.getElem?_toArray, List.getElem?_cons_zero, List.getElem?_cons_succ]; rfl
                          · exact fun _ _ _ h => h
                          · rfl
                          · intro w' hSw; (try dsimp only at hSw); (first | (go_simp; done) | (go_simp; with_reducible rfl))
                          try simp only [Act.put, List.setIfInBounds_toArray, List.set_cons_zero, List.set_cons_succ]
                          refine wpAnyH_take (i := 24) (oi := ?_) (v := ?_) ?_ (by kernel_rfl) (by kernel_rfl) (by kernel_rfl) ?_ (Or.inl ⟨?_, ?_⟩) (by assumption) ?_
                          rotate_left 2
                          · simp only [List.getElem?_toArray, List.getElem?_cons_zero, List.getElem?_cons_succ]; rfl
                          · exact fun _ _ _ h => h
                          · rfl
                          · intro w' hSw; (try dsimp only at hSw); (first | (go_simp; done) | (go_simp; with_reducible rfl))
                          try simp only [Act.put, List.setIfInBounds_toArray, List.set_cons_zero, List.set_cons_succ]
                          refine wpAnyH_done (by kernel_rfl) ?_ _
                          go_wp2_with fail
                          exact ⟨⟨t + 1, by omega, by go_num, HBB.out.drew⟩, by simp [intOf]; omega⟩
                        · obtain rfl := hxy htB
                          obtain rfl : Z1 = X1 := hZ1.trans hX1.symm
                          have hsb : ((t : Int) != (B : Int)) = true := by simp; omega
                          have hse : ((t : Int) == (B : Int)) = false := by simp; omega
                          clear hX1 hZ1 hxy htB
                          go_upto_region 36 with fail
                          go_region_held3 (fun w' => hasRow w' ⟨gv, t * 56, none⟩ 56 = true ∧ rowOf w' ⟨gv, t * 56, none⟩ 56 = Z1 ∧ hasRow w' ⟨gf, t * 56, none⟩ 56 = true ∧ rowOf w' ⟨gf, t * 56, none⟩ 56 = Z1 ∧ hasRow w' ⟨w.heap.size + 1 + 1, t * 56, none⟩ 56 = true ∧ rowOf w' ⟨w.heap.size + 1 + 1, t * 56, none⟩ 56 = Z1) (first | (simp [*, hasRow_drew, rowOf_drew]; done)) (fail)
                          go_wp2_with fail
                          exact ⟨⟨t + 1, by omega, by go_num, HBB.out.drew⟩, by simp [intOf]; omega⟩
                      · have HB11 := Lib.hid (H10.out.1.trans (hB.mono H10.out.1.size))
                        have HGF2 := Lib.hid (HGF.out.below hB HGF.out.lt)
                        clear hB
                        go_wp2_with fail
                        exact ⟨⟨m + 1, by omega, by go_num, HB11.out, .inr ⟨gf, rfl, HGF2.out⟩⟩, by simp [intOf]; omega⟩
          · have HE := Lib.hid HBf.out.1
            go_wp2_with fail
            refine (lives15_any wr).mono ?_
            rintro e w9 ⟨rfl, hb9⟩
            have HEND : Hid (Below w.heap.size w w9) := Lib.hid ((HF.out w9 (HPS.out.2.2.2.2.2.2.trans ((HE.out.trans (hb9.mono HE.out.size)).mono hsz3))).2.2.2.2.2.1)
            clear hb9
            go_wp2_with fail
            go_ret
            exact ⟨rfl, HEND.out⟩
end Go.Proofs.Ytphbmnjkhgfnoaa
