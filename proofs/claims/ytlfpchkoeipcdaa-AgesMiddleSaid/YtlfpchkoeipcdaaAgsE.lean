/-
  sennitlaw16.AgesMiddle, walked.
-/
import Derived.Test.YtlfpchkoeipcdaaAgs9
import Derived.Test.YtlfpchkoeipcdaaLie
import Derived.Deep.CutBlock
import Derived.Deep.CutRange
namespace Go.Proofs.Ytlfpchkoeipcdaa
open Go.RowKit
set_option linter.unusedVariables false
set_option linter.unusedSimpArgs false

/-- a table appended, at a step of a region that draws its order -/
theorem step_appH {P : Program} {t e : TypeId} (hA : AppOk P t e 56) {w : World} {ops : Array Oper} {o : Oper} {a : Act} {K : Act → World → Prop} {Q : Exit → Act → World → Prop} {E : Prop} (hgd : o.guard = none) (s x : Operand)
    (ho : o.op = .call { callee := .builtin .append, args := #[s, x], argTypes := #[t, t] })
    (base : Nat) (v : Value) (n : Nat) (xs : List Value) (hs : a.eval s = v) (hown : w.ownsRow base e 56 v n xs)
    {S : Nat → Prop} (ad : Option Addr) (m c : Nat) (l : List Hd) (hx : a.eval x = .slice ad m c) (hrd : RdHs S w ad m l)
    (hn : n + m ≤ 1000000000) (hbase : base ≤ w.heap.size)
    (h : ∀ v' w', w'.ownsRow base e 56 v' (n + m) (xs ++ flatH l) → w.grownBy w' v.ownBlock → (∃ x c, v' = .slice x (n + m) c) → K (a.put o.dst v') w') :
    if Region.wanted o (yielded ops a.tmps) = true then Oper.wp P o a w K Q else E := by
  have hw : Region.wanted o (yielded ops a.tmps) = true := by simp [Region.wanted, hgd]
  rw [if_pos hw]
  rcases Nat.eq_zero_or_pos m with rfl | hm
  · have hl : l = [] := List.eq_nil_of_length_eq_zero hrd.1
    subst hl
    obtain ⟨ht, i, z, hi, hz, hsize, hby, hzs, hsz⟩ := hA
    unfold Oper.wp execOp
    simp only [ho, resolve, invoke, builtin, Sem.run_bind, Sem.run_pure, Result.andThen_ok, List.map_toArray, List.map_cons, List.map_nil, hs, hx, run_append_zero ht hi v n xs hown ad c]
    refine h v w (by simpa [flatH] using hown) ⟨rfl, rfl, rfl, Nat.le_refl _, fun _ _ _ => rfl⟩ ?_
    rcases hown.2 with ⟨rfl, rfl⟩ | ⟨g, cap, cur, rfl, _⟩
    · exact ⟨_, _, rfl⟩
    · exact ⟨_, _, rfl⟩
  · obtain ⟨b, off, rfl, -, -, h1, h2⟩ := hrd.whole hm
    obtain ⟨ht, i, z, hi, hz, hsize, hby, hzs, hsz⟩ := hA
    refine wp_append_lies w s x t ho base e i z 56 i.bytes ht hi hz hsize rfl hzs hsz v n xs hs hown ⟨b, off, none⟩ m c (flatH l) hx (by rw [len_flatH hrd.2.1, hrd.1]) (fun j u hu => ?_) (fun u hu => ?_) hm (by simp only [maxLen]; omega) (Nat.le_trans (Nat.mul_le_mul hn hby) (by omega)) hbase w.heap.size rfl (fun g cap w' k1 k2 _ _ => h _ w' k1 k2 ⟨_, _, rfl⟩)
    · have hj : j < m * 56 := by
        have := (List.getElem?_eq_some_iff.1 hu).1
        rw [len_flatH hrd.2.1, hrd.1] at this
        exact this
      rw [rowOf_at h1 j hj, h2, hu]
    · obtain ⟨y, hy, huy⟩ := List.mem_flatMap.1 hu
      exact cell1_one (List.all_eq_true.1 (hd_cell1 (hrd.2.1 y hy)) u huy)

theorem mid_common {w5 : World} {B : Nat} {M : List Hd} {J k : Nat} {com : Int} {x2 : Option Addr} {c2 : Nat} (hM : ∀ x ∈ M, x.ok) (ht : commonF k (M.drop J ++ M.take J) = com) (hown : w5.ownsRow B 46 56 (.slice x2 k c2) k (flatH (M.drop J) ++ flatH (M.take J))) :
    Calls Try.prog 12 #[.int .i64 k, .slice x2 k c2] w5 fun e w' => e = .returned (.int .i64 com) ∧ Below w5.heap.size w5 w' := by
  rw [← flatH_append] at hown
  obtain ⟨a, c, he, h1, h2, h3⟩ := RdHs.of_own (l := M.drop J ++ M.take J) hown (fun x hx => by
    rcases List.mem_append.1 hx with hx | hx
    · exact hM x (List.mem_of_mem_drop hx)
    · exact hM x (List.mem_of_mem_take hx))
  cases he
  rw [← ht]
  exact common_any _ k x2 k c2 _ w5 h1 h2 h3
theorem rdHs_drop {S : Nat → Prop} {w : World} {b off : Nat} {m : Nat} {l : List Hd} (h : RdHs S w (some ⟨b, off, none⟩) m l) {k : Nat} (hk : k ≤ m) : RdHs S w (some ⟨b, off + k * 56, none⟩) (m - k) (l.drop k) :=
  ⟨by rw [List.length_drop, h.1], fun y hy => h.2.1 y (List.mem_of_mem_drop hy), fun j y hj => by
    rw [List.getElem?_drop] at hj
    obtain ⟨b', off', e, hS, hb, h1, h2⟩ := h.2.2 (k + j) y hj
    cases e
    exact ⟨b, off + k * 56, rfl, hS, hb, by rw [show off + k * 56 + j * 56 = off + (k + j) * 56 from by rw [Nat.add_mul]; omega]; exact h1, by rw [show off + k * 56 + j * 56 = off + (k + j) * 56 from by rw [Nat.add_mul]; omega]; exact h2⟩⟩

set_option maxRecDepth 100000 in
set_option maxHeartbeats 8000000 in
theorem agmid_ok (p q r : Int) (hp : 0 ≤ p ∧ p ≤ 255) (hq : 0 ≤ q ∧ q ≤ 255) (hr : 0 ≤ r ∧ r ≤ 255) (N B J : Nat) (hN : 4 + p % 13 = (N : Int)) (hB : q % (N : Int) = (B : Int)) (hJ : r % (N : Int) = (J : Int)) (h4 : 4 ≤ N) (h16 : N ≤ 16) (hBN : B < N) (hJN : J < N)
    (a : Option Addr) (len cap : Nat) (L : List Hd) (w : World) (hrd : RdHs (· < w.heap.size) w a len L) (hm1 : len ≤ cap) (hm2 : cap ≤ maxLen) (hl1 : N ≤ len) (hl2 : len ≤ 40) :
    Calls Try.prog 7 #[.agg #[.int .u8 p, .int .u8 q, .int .u8 r], .slice a len cap] w (OkPost w) := by
  obtain ⟨hp0, hp1⟩ := hp
  obtain ⟨hq0, hq1⟩ := hq
  obtain ⟨hr0, hr1⟩ := hr
  unfold maxLen at hm2
  have hb0 : 0 ≤ p % 13 := by omega
  have hb1 : p % 13 < 13 := by omega
  have hb2 : ¬ len < N := by omega
  have hb3 : ¬ (40 : Int) < (len : Int) := by omega
  have hNc : N ≤ cap := by omega
  have hrt := rdHs_take hrd hl1
  obtain ⟨M, hM⟩ : ∃ M, M = L.take N := ⟨_, rfl⟩
  rw [← hM] at hrt
  have hMl : M.length = N := hrt.1
  have hcm : commonF N M = commonF N L := by rw [hM]; exact commonF_take (by simp)
  have F0 : Hid (∀ w' : World, Below w.heap.size w w' → RdHs (· < w.heap.size) w' a N M) := Lib.hid fun w' h => hrt.below h (fun _ _ h => h)
  have hbx : Blk (w.alloc (.cells #[.int .u8 p, .int .u8 q, .int .u8 r] 71)) w.heap.size 71 #[.int .u8 p, .int .u8 q, .int .u8 r] := Blk.new _ _ _
  have hBx : Below w.heap.size w (w.alloc (.cells #[.int .u8 p, .int .u8 q, .int .u8 r] 71)) := (Below.refl _ _).alloc (Nat.le_refl _) _
  have HM := Lib.hid (And.intro hMl hM)
  clear hrd hrt hM hMl hcm
  go_enter Try.func7, Try.ntmps7
  go_upto_region 1 with fail
  generalize w.alloc (.cells #[.int .u8 p, .int .u8 q, .int .u8 r] 71) = w1 at hbx hBx ⊢
  have z0 : w1.cell? ⟨w.heap.size, 0, none⟩ = some (.int .u8 p) := hbx.cell 0
  have z1 : w1.cell? ⟨w.heap.size, 1, none⟩ = some (.int .u8 q) := hbx.cell 1
  have F1 : Hid (∀ w' : World, Below w1.heap.size w1 w' → w'.cell? ⟨w.heap.size, 2, none⟩ = some (.int .u8 r) ∧ RdHs (· < w.heap.size) w' a N M ∧ Below w.heap.size w w') := Lib.hid fun w' h => ⟨(hbx.below h hbx.lt).cell 2, F0.out w' (below_on hBx h hBx.size), below_on hBx h hBx.size⟩
  have HC := Lib.hid (common_any _ N a N cap M w1 (F1.out w1 (Below.refl _ _)).2.1 hNc (by unfold maxLen; omega))
  clear hbx hBx
  go_wp2_with fail
  refine HC.out.mono ?_
  rintro e w2 ⟨rfl, hb2'⟩
  have HB2 := Lib.hid hb2'
  obtain ⟨com, hcom⟩ : ∃ com, com = commonF N M := ⟨_, rfl⟩
  rw [← hcom]
  have hcr : -1 ≤ com ∧ com ≤ 1099511627776 := by rw [hcom]; exact commonF_range _ _
  have HCM := Lib.hid hcom
  obtain ⟨z2, hrt, hBw⟩ := F1.out w2 hb2'
  have z1' : w2.cell? ⟨w.heap.size, 1, none⟩ = some (.int .u8 q) := by
    have := hb2'.cell (p := ⟨w.heap.size, 1, none⟩) (by have := World.block_lt_of_cell? w1 _ z1; exact this)
    exact this.trans z1
  have HRT := Lib.hid (And.intro hrt hBw)
  clear hcom HC hb2' hrt hBw z0 z1
  go_wp2_with fail
  go_loopw [8, 9, 10, 11] (fun le mo ma i wr => ∃ (k m : Nat) (least most : Int), k ≤ N ∧ i = .int .i64 k ∧ le = .int .i64 least ∧ mo = .int .i64 most ∧ ma = .int .i64 m ∧ m ≤ k ∧ (goodL B M k).length = m ∧ LeastP (goodL B M k) least ∧ MostAP (goodL B M k) most ∧ (-1 ≤ least ∧ least ≤ 1099511627776) ∧ (-1 ≤ most ∧ most ≤ 1099511627776) ∧ wr = w2) (fun _ _ _ i _ => N - (intOf i).toNat)
  case atStart => exact ⟨0, 0, -1, -1, by omega, rfl, rfl, rfl, rfl, Nat.le_refl _, rfl, .inl ⟨rfl, rfl⟩, .inl ⟨rfl, rfl⟩, by omega, by omega, rfl⟩
  case round =>
    obtain ⟨k, m, least, most, hk, rfl, rfl, rfl, rfl, hmk, hlen, hle, hmo, ⟨hl0, hl1'⟩, ⟨hm0, hm1'⟩, rfl⟩ := hrel
    by_cases hlt : k < N
    · obtain ⟨b, off, is, n1, rr, rfl, -, hbw, hlk, hok, hlr, hlc1, -, -, -, -, h5, h6, h7, h8⟩ := HRT.out.1.at_ k hlt
      have hgs := goodL_succ (bad := B) hlk
      have hkl : k < len := by omega
      have e1 : oneAge ⟨is, .int .i64 n1 :: rr⟩ = if is && okI n1 then [n1] else [] := by simp [oneAge, okAge, ageL]
      rw [e1] at hgs
      have hno : (k = B ∨ (is && okI n1) = false) → goodL B M (k + 1) = goodL B M k := fun h => by
        rw [hgs]
        rcases h with h | h
        · rw [if_pos h, List.append_nil]
        · rw [h]; simp
      have hyes : k ≠ B → (is && okI n1) = true → goodL B M (k + 1) = goodL B M k ++ [n1] := fun h1 h2 => by rw [hgs, if_neg h1, h2]; rfl
      have hgood : ∀ x ∈ goodL B M k, 0 ≤ x ∧ x ≤ 1099511627776 := fun x hx => goodL_ok hx
      have HK := Lib.hid (And.intro hlen (And.intro hle (And.intro hmo (And.intro hno (And.intro hyes hgood)))))
      have skip : (k = B ∨ (is && okI n1) = false) → ∃ (k' m' : Nat) (least' most' : Int), k' ≤ N ∧ Value.int .i64 ((k : Int) + 1) = .int .i64 k' ∧ Value.int .i64 least = .int .i64 least' ∧ Value.int .i64 most = .int .i64 most' ∧ Value.int .i64 (m : Int) = .int .i64 m' ∧ m' ≤ k' ∧ (goodL B M k').length = m' ∧ LeastP (goodL B M k') least' ∧ MostAP (goodL B M k') most' ∧ (-1 ≤ least' ∧ least' ≤ 1099511627776) ∧ (-1 ≤ most' ∧ most' ≤ 1099511627776) ∧ True := fun h => by
        have e := HK.out.2.2.2.1 h
        exact ⟨k + 1, m, least, most, by omega, by simp, rfl, rfl, rfl, by omega, by rw [e]; exact HK.out.1, by rw [e]; exact HK.out.2.1, by rw [e]; exact HK.out.2.2.1, ⟨hl0, hl1'⟩, ⟨hm0, hm1'⟩, trivial⟩
      have HSK := Lib.hid skip
      clear hlk hok hlr hlc1 hgs e1 hno hyes hgood hlen hle hmo skip
      by_cases hkB : k = B
      · have hkb : ((k : Int) == (B : Int)) = true := by simp [hkB]
        have HKB := Lib.hid hkB
        clear hkB
        go_wp2_with fail
        exact ⟨HSK.out (.inl HKB.out), by simp [intOf]; omega⟩
      · have hkb : ((k : Int) == (B : Int)) = false := by simp; omega
        have HKB := Lib.hid hkB
        clear hkB
        cases is with
        | false =>
          go_wp2_with fail
          exact ⟨HSK.out (.inr rfl), by simp [intOf]; omega⟩
        | true =>
          by_cases hn0 : n1 < 0
          · go_wp2_with fail
            exact ⟨HSK.out (.inr (by simp [okI]; omega)), by simp [intOf]; omega⟩
          · by_cases hn1 : 1099511627776 < n1
            · go_wp2_with fail
              exact ⟨HSK.out (.inr (by simp [okI]; omega)), by simp [intOf]; omega⟩
            · have hg : (true && okI n1) = true := by simp [okI]; omega
              have hst : ∀ (le' mo' : Int), le' = (if least < 0 ∨ n1 < least then n1 else least) → mo' = max most n1 → ∃ (k' m' : Nat) (least' most' : Int), k' ≤ N ∧ Value.int .i64 ((k : Int) + 1) = .int .i64 k' ∧ Value.int .i64 le' = .int .i64 least' ∧ Value.int .i64 mo' = .int .i64 most' ∧ Value.int .i64 ((m : Int) + 1) = .int .i64 m' ∧ m' ≤ k' ∧ (goodL B M k').length = m' ∧ LeastP (goodL B M k') least' ∧ MostAP (goodL B M k') most' ∧ (-1 ≤ least' ∧ least' ≤ 1099511627776) ∧ (-1 ≤ most' ∧ most' ≤ 1099511627776) ∧ True := fun le' mo' h1 h2 => by
                have e := HK.out.2.2.2.2.1 HKB.out hg
                refine ⟨k + 1, m + 1, le', mo', by omega, by simp, rfl, rfl, by simp, by omega, by rw [e, List.length_append, HK.out.1]; rfl, ?_, ?_, ?_, by omega, trivial⟩
                · rw [e, h1]; exact HK.out.2.1.push (fun x hx => (HK.out.2.2.2.2.2 x hx).1) (by omega)
                · rw [e, h2]; exact HK.out.2.2.1.push (by omega)
                · split at h1 <;> omega
              have HST := Lib.hid hst
              clear hst hg
              by_cases hle0 : least < 0
              · go_wp2_with fail
                exact ⟨HST.out _ _ (by rw [if_pos (.inl hle0)]) (by first | rfl | (split <;> omega)), by simp [intOf]; omega⟩
              · by_cases hle1 : n1 < least
                · go_wp2_with fail
                  exact ⟨HST.out _ _ (by rw [if_pos (.inr hle1)]) (by first | rfl | (split <;> omega)), by simp [intOf]; omega⟩
                · go_wp2_with fail
                  exact ⟨HST.out _ _ (by rw [if_neg (by omega)]) (by first | rfl | (split <;> omega)), by simp [intOf]; omega⟩
    · have hkN : k = N := by omega
      subst hkN
      have hmid := middle h4 h16 HM.out.1 B hle hmo
      rw [← HCM.out, hlen] at hmid
      obtain ⟨hA, hB⟩ := hmid
      have HAB := Lib.hid (And.intro hA hB)
      clear hA hB hle hmo hlen
      go_upto_region 19 with fail
      go_cut [100] from 83 to 100 (fun s wx => s = .bool false ∧ wr = wx)
      case first =>
        by_cases hc0 : 0 ≤ com
        · obtain ⟨q1, q2, q3⟩ := HAB.out.1 hc0
          have q1' : ¬ (m : Int) < (k : Int) - 2 := by omega
          have q2' : ¬ com < least := by omega
          have q3' : ¬ most < com := by omega
          go_wp2_with fail
          go_meet
          exact ⟨rfl, rfl⟩
        · go_wp2_with fail
          go_meet
          exact ⟨rfl, rfl⟩
      case rest =>
        obtain ⟨rfl, rfl⟩ := hcut
        go_upto_region 21 with fail
        go_cut [118] from 101 to 118 (fun s wx => s = .bool false ∧ wr = wx)
        case first =>
          by_cases hmN : m = k - 1
          · obtain ⟨q1, q2⟩ := HAB.out.2 hmN
            have q1' : ¬ com < 0 := by omega
            have hmi : ((m : Int) == (k : Int) - 1) = true := by simp; omega
            have HMN := Lib.hid hmN
            clear hmN
            by_cases hlm : least = most
            · have hce := q2 hlm
              subst hlm
              subst hce
              clear q2
              go_wp2_with fail
              go_meet
              exact ⟨rfl, rfl⟩
            · have hlm' : (least == most) = false := by simpa using hlm
              clear q2
              go_wp2_with fail
              go_meet
              exact ⟨rfl, rfl⟩
          · have hmi : ((m : Int) == (k : Int) - 1) = false := by simp; omega
            go_wp2_with fail
            go_meet
            exact ⟨rfl, rfl⟩
        case rest =>
          obtain ⟨rfl, rfl⟩ := hcut
          obtain ⟨b, off, rfl, -, hbw, -, -⟩ := HRT.out.1.whole (by omega)
          have HDT : Hid (∀ w' : World, Below w.heap.size w w' → RdHs (· < w.heap.size) w' (some ⟨b, off + J * 56, none⟩) (k - J) (M.drop J) ∧ RdHs (· < w.heap.size) w' (some ⟨b, off, none⟩) J (M.take J)) := Lib.hid fun w' h => ⟨rdHs_drop (F0.out w' h) (by omega), rdHs_take (F0.out w' h) (by omega)⟩
          have HTU : Hid (commonF k (M.drop J ++ M.take J) = com) := Lib.hid (by rw [turned HM.out.1, ← HCM.out])
          have HMO : Hid (∀ x ∈ M, x.ok) := Lib.hid HRT.out.1.2.1
          have hJc : J < cap := by omega
          have hcJ : ¬ cap = J := by omega
          have hJc2 : J ≤ cap := by omega
          have hJk : J ≤ k := by omega
          have hsw : w.heap.size ≤ wr.heap.size := HRT.out.2.size
          go_upto_region 24 with fail
          have hkk : k - J + J = k := by omega
          have HKK := Lib.hid hkk
          clear hkk
          go_region_law (first
            | (refine step_appH app_held (by rfl) (.tmp 128) (.tmp 131) (by rfl) wr.heap.size (.slice x1 (k - J) c1) _ _ (by first | (simp; done) | (go_simp; done)) H4.out.1 (some ⟨b, off, none⟩) J cap (M.take J) (by first | (simp; done) | (go_simp; done)) (HDT.out w4 H4.out.2).2 (by omega) hs4 ?_; intro v2 w5 hown2 hg2 hv2; rw [HKK.out] at hown2 hv2; obtain ⟨x2, c2, rfl⟩ := hv2; have H5 := Lib.hid (H4.out.2.grown hg2 H4.out.2.size (fun k hk => by have := (H4.out.1.lt k hk).1; omega)); have HC5 := Lib.hid (mid_common HMO.out HTU.out hown2); clear hown2 hg2)
            | (refine step_appH app_held (by rfl) (.const (.slice none 0 0)) (.tmp 127) (by rfl) wr.heap.size _ _ _ (by rfl) (World.ownsRow_nil _ _ _ _) (some ⟨b, off + J * 56, none⟩) (k - J) (cap - J) (M.drop J) (by first | (simp; done) | (go_simp; done)) (HDT.out wr.drew HRT.out.2.drew).1 (by omega) (Nat.le_refl _) ?_; intro v1 w4 hown1 hg1 hv1; rw [Nat.zero_add, List.nil_append] at hown1; rw [Nat.zero_add] at hv1; obtain ⟨x1, c1, rfl⟩ := hv1; have H4 := Lib.hid (And.intro hown1 (HRT.out.2.drew.grown hg1 HRT.out.2.size (fun k hk => by cases hk))); have hs4 : wr.heap.size ≤ w4.heap.size := hg1.size; clear hown1 hg1)
            | (go_simp; go_at_call 12; refine (HC5.out).mono ?_; rintro e w6 ⟨rfl, hb6⟩; have H6 := Lib.hid (below_on H5.out hb6 H5.out.size); clear hb6)
            | (go_simp; go_at_call 13; refine (aglives_any w6).mono ?_; rintro e w7 h7; obtain ⟨rfl, hl7⟩ := h7; have H7 := Lib.hid (below_on H6.out hl7 H6.out.size); clear hl7))
          all_goals go_wp2_with fail
          all_goals go_ret
          all_goals exact ⟨rfl, H7.out⟩
theorem agmid_any (p q r : Int) (hp : 0 ≤ p ∧ p ≤ 255) (hq : 0 ≤ q ∧ q ≤ 255) (hr : 0 ≤ r ∧ r ≤ 255)
    (a : Option Addr) (len cap : Nat) (L : List Hd) (w : World) (hrd : RdHs (· < w.heap.size) w a len L) (hm1 : len ≤ cap) (hm2 : cap ≤ maxLen) :
    Calls Try.prog 7 #[.agg #[.int .u8 p, .int .u8 q, .int .u8 r], .slice a len cap] w (OkPost w) := by
  obtain ⟨N, hN⟩ : ∃ N : Nat, 4 + p % 13 = (N : Int) := ⟨(4 + p % 13).toNat, by omega⟩
  have h4 : 4 ≤ N := by omega
  have h16 : N ≤ 16 := by omega
  by_cases hl : N ≤ len ∧ len ≤ 40
  · obtain ⟨B, hB, hBN⟩ : ∃ B : Nat, q % (N : Int) = (B : Int) ∧ B < N := ⟨(q % (N : Int)).toNat, by have := Int.emod_nonneg q (show (N : Int) ≠ 0 by omega); omega, by have := Int.emod_lt_of_pos q (show (0 : Int) < N by omega); have := Int.emod_nonneg q (show (N : Int) ≠ 0 by omega); omega⟩
    obtain ⟨J, hJ, hJN⟩ : ∃ J : Nat, r % (N : Int) = (J : Int) ∧ J < N := ⟨(r % (N : Int)).toNat, by have := Int.emod_nonneg r (show (N : Int) ≠ 0 by omega); omega, by have := Int.emod_lt_of_pos r (show (0 : Int) < N by omega); have := Int.emod_nonneg r (show (N : Int) ≠ 0 by omega); omega⟩
    exact agmid_ok p q r hp hq hr N B J hN hB hJ h4 h16 hBN hJN a len cap L w hrd hm1 hm2 hl.1 hl.2
  · obtain ⟨hp0, hp1⟩ := hp
    unfold maxLen at hm2
    have hb0 : 0 ≤ p % 13 := by omega
    have hb1 : p % 13 < 13 := by omega
    have hbx : Blk (w.alloc (.cells #[.int .u8 p, .int .u8 q, .int .u8 r] 71)) w.heap.size 71 #[.int .u8 p, .int .u8 q, .int .u8 r] := Blk.new _ _ _
    have hBx : Below w.heap.size w (w.alloc (.cells #[.int .u8 p, .int .u8 q, .int .u8 r] 71)) := (Below.refl _ _).alloc (Nat.le_refl _) _
    clear hrd
    have hl' : len < N ∨ (¬ len < N ∧ (40 : Int) < (len : Int)) := by omega
    clear hl
    rcases hl' with hl | ⟨hl, hl2⟩
    all_goals
      go_enter Try.func7, Try.ntmps7
      go_upto_region 1 with fail
      generalize w.alloc (.cells #[.int .u8 p, .int .u8 q, .int .u8 r] 71) = w1 at hbx hBx ⊢
      have z0 : w1.cell? ⟨w.heap.size, 0, none⟩ = some (.int .u8 p) := hbx.cell 0
      have HB := Lib.hid hBx
      clear hbx hBx
      go_wp2_with fail
      refine (aglives_any _).mono ?_
      rintro e w' h'
      have he := h'.1
      have HL := Lib.hid h'.2
      clear h'
      subst he
      go_wp2_with fail
      go_ret
      exact OkPost.of HB.out ⟨rfl, HL.out⟩
end Go.Proofs.Ytlfpchkoeipcdaa
