/-
  sennitlaw16.AgesRun, walked.
-/
import Derived.Test.YtlfpchkoeipcdaaAgsC
import Derived.Deep.CutBlock
import Derived.Deep.CutRange
namespace Go.Proofs.Ytlfpchkoeipcdaa
open Go.RowKit
set_option linter.unusedVariables false
set_option linter.unusedSimpArgs false

set_option maxRecDepth 100000 in
set_option maxHeartbeats 8000000 in
theorem agrun_ok (p : Int) (hp0 : 0 ≤ p) (hp1 : p ≤ 255) (N : Nat) (hN : 4 + p % 13 = (N : Int)) (h4 : 4 ≤ N) (h16 : N ≤ 16) (a : Option Addr) (len cap : Nat) (l : List (Int × Int)) (w : World) (hrd : RdP w.heap.size w a len l) (hle : len ≤ 40) :
    Calls Try.prog 8 #[.int .u8 p, .slice a len cap] w (OkPost w) := by
  have HR := Lib.hid hrd
  clear hrd
  have hb0 : 0 ≤ p % 13 := by omega
  have hb1 : p % 13 < 13 := by omega
  have hbig : ¬ (40 : Int) < (len : Int) := by omega
  have HS := Lib.hid (RunA.start w N)
  go_enter Try.func8, Try.ntmps8
  go_wp2_with fail
  refine (agnew_ok N _ (by omega) (by omega)).mono ?_
  rintro e w' ⟨rfl, rfl⟩
  clear hN
  go_wp2_with fail
  generalize w.alloc (.cells #[.int .i64 N, .slice none 0 0] 68) = w1 at HS ⊢
  go_loopw [8, 9] (fun v i wr => ∃ (k : Nat) (A : List Int), k ≤ 2 * N ∧ i = .int .i64 k ∧ A.length = k ∧ RunL N A ∧ RunA w N v A wr) (fun _ i _ => 2 * N - (intOf i).toNat)
  case atStart => exact ⟨0, [], by omega, rfl, rfl, RunL.nil N, HS.out⟩
  case round =>
    obtain ⟨k, A, hk, rfl, hAl, hA, hr⟩ := hrel
    by_cases hlt : k < 2 * N
    · have hBw : Below w.heap.size w wr := by obtain ⟨v1, -, -, -, h⟩ := hr; exact h
      have HC := Lib.hid (fun (c : Int) (h0 : 0 ≤ c) (h1 : c ≤ 549755814887) => hr.step h4 h16 hA h0 h1)
      have hnext : ∀ (c : Int), 0 ≤ c → c ≤ 549755813887 → ∀ (w3 wm w4 : World) (v2 : Value), RunB w N u8 (A ++ [c + 2 * (N : Int)]) A w3 → Below w3.heap.size w3 wm → wm.heap.size = w3.heap.size + 1 → RoomV w.heap.size w4 2 v2 (A.map (Value.int .i64) ++ [Value.int .i64 (c + 2 * (N : Int))]) → wm.grownBy w4 u8.ownBlock → (v2.ownBlock = u8.ownBlock ∨ v2.ownBlock = some wm.heap.size ∨ ∀ k, v2.ownBlock = some k → wm.heap.size ≤ k) →
          ∃ (k' : Nat) (A' : List Int), k' ≤ 2 * N ∧ Value.int .i64 ((k : Int) + 1) = .int .i64 k' ∧ A'.length = k' ∧ RunL N A' ∧ RunA w N v2 A' w4 := fun c c0 c1 w3 wm w4 v2 hb hm hms hro hg hl =>
        ⟨k + 1, A ++ [c + 2 * (N : Int)], by omega, by simp, by simp [hAl], hA.push (by omega) (by omega) (by omega) (fun a h => by omega), hb.push hm hms hro hg hl rfl⟩
      have HN := Lib.hid hnext
      have HAL := Lib.hid hAl
      clear hAl hA hr hnext
      by_cases hin : k < len
      · obtain ⟨q, hq⟩ : ∃ q, l[k]? = some q := ⟨_, List.getElem?_eq_getElem (by have := HR.out.1; omega)⟩
        obtain ⟨⟨b, off, rfl, hbw, hc0, -⟩, hp0, -⟩ := HR.out.2 k q hq
        have g0 : wr.cell? ⟨b, off + k * 2, none⟩ = some (.int .i64 q.1) := (hBw.cell (p := ⟨b, off + k * 2, none⟩) hbw).trans hc0
        obtain ⟨m0, m1⟩ := and_mask q.1
        clear hc0 hq hBw
        go_wp2_with fail
        generalize bits BinOp.and IntKind.i64 q.1 549755813887 = c at m0 m1 ⊢
        have HC' := Lib.hid (HC.out c m0 (by omega))
        refine HC'.out.mono ?_
        rintro e w3 ⟨rfl, hrb⟩
        obtain ⟨y, hy⟩ : ∃ y, y = c + 2 * (N : Int) := ⟨_, rfl⟩
        have HB := Lib.hid hrb
        have hroom : RoomV w.heap.size w3 2 u8 (A.map (Value.int .i64)) := by obtain ⟨v1, -, h, -, -⟩ := hrb; exact h
        have hsz : w.heap.size ≤ w3.heap.size := by obtain ⟨v1, -, -, -, h⟩ := hrb; exact h.size
        have HRM := Lib.hid hroom
        clear hrb hroom hy HC HC'
        go_wp2_with (at_builtin; refine wpList_appR app_i64' (by rfl) (.tmp 61) (.tmp 63) (by rfl) (B := w.heap.size) (by simp; omega) u8 (A.map (Value.int .i64)) (by rfl) (HRM.out.block (fun k hk => Below.heap_alloc _ _ _ (HRM.out.lt k hk).2)) ⟨w3.heap.size, 0, none⟩ 1 (.int .i64 (c + 2 * (N : Int))) (by rfl) (by first | rfl | simp | go_simp) rfl (by rw [List.length_map, HAL.out]; omega) ?_; intro v2 w4 hro2 hg2 hl2; have H2 := Lib.hid (And.intro hro2 (And.intro hg2 hl2)); clear hro2 hg2 hl2)
        exact ⟨HN.out c m0 m1 w3 _ w4 v2 HB.out ((Below.refl _ _).alloc (Nat.le_refl _) _) (by simp) H2.out.1 H2.out.2.1 H2.out.2.2, by simp [intOf]; omega⟩
      · have HC' := Lib.hid (HC.out (k : Int) (by omega) (by omega))
        clear hBw HC
        go_wp2_with fail
        refine HC'.out.mono ?_
        rintro e w3 ⟨rfl, hrb⟩
        have HB := Lib.hid hrb
        have hroom : RoomV w.heap.size w3 2 u8 (A.map (Value.int .i64)) := by obtain ⟨v1, -, h, -, -⟩ := hrb; exact h
        have hsz : w.heap.size ≤ w3.heap.size := by obtain ⟨v1, -, -, -, h⟩ := hrb; exact h.size
        have HRM := Lib.hid hroom
        clear hrb hroom HC'
        go_wp2_with (at_builtin; refine wpList_appR app_i64' (by rfl) (.tmp 61) (.tmp 63) (by rfl) (B := w.heap.size) (by simp; omega) u8 (A.map (Value.int .i64)) (by rfl) (HRM.out.block (fun k hk => Below.heap_alloc _ _ _ (HRM.out.lt k hk).2)) ⟨w3.heap.size, 0, none⟩ 1 (.int .i64 ((k : Int) + 2 * (N : Int))) (by rfl) (by first | rfl | simp | go_simp) rfl (by rw [List.length_map, HAL.out]; omega) ?_; intro v2 w4 hro2 hg2 hl2; have H2 := Lib.hid (And.intro hro2 (And.intro hg2 hl2)); clear hro2 hg2 hl2)
        exact ⟨HN.out k (by omega) (by omega) w3 _ w4 v2 HB.out ((Below.refl _ _).alloc (Nat.le_refl _) _) (by simp) H2.out.1 H2.out.2.1 H2.out.2.2, by simp [intOf]; omega⟩
    · have hkN : k = 2 * N := by omega
      have HH := Lib.hid (And.intro (hAl.trans hkN) (And.intro hA hr))
      clear hAl hA hr hkN HR
      go_wp2_with fail
      go_loopw [8, 13, 14] (fun v la i wr => ∃ (k : Nat) (A : List Int) (sh : Int), k ≤ 5 * N ∧ i = .int .i64 k ∧ la = .int .i64 sh ∧ (-1 ≤ sh ∧ sh ≤ 1099511627776) ∧ (0 < k → sh = showF (lastN (2 * N) A)) ∧ A.length = 2 * N + k ∧ RunL N A ∧ RunA w N v A wr) (fun _ _ i _ => 5 * N - (intOf i).toNat)
      case atStart => exact ⟨0, A, -1, by omega, rfl, rfl, by omega, fun h => by omega, HH.out.1, HH.out.2.1, HH.out.2.2⟩
      case round =>
        obtain ⟨k, A, sh, hk, rfl, rfl, ⟨hs0, hs1⟩, hsh, hAl, hA, hr⟩ := hrel
        by_cases hlt : k < 5 * N
        · obtain ⟨y, hy⟩ : ∃ y, A[k]? = some y := ⟨_, List.getElem?_eq_getElem (by omega)⟩
          obtain ⟨hy0, hy1⟩ := hA.rng y (List.mem_of_getElem? hy)
          have hpush : RunL N (A ++ [y + 2 * (N : Int)]) := hA.push (by omega) (by have := hA.lo k y hy; omega) (by have := hA.lo k y hy; omega) (fun a _ ha => by rw [show A.length - 2 * N = k from by omega, hy] at ha; cases ha; rfl)
          have hge := show_ge h4 h16 hpush
          have hnx : 0 < k → showF (lastN (2 * N) (A ++ [y + 2 * (N : Int)])) = sh + 1 := fun h => by rw [hsh h]; exact show_next h4 h16 hpush hA (by omega)
          have hsr : showF (lastN (2 * N) (A ++ [y + 2 * (N : Int)])) ≤ 1099511627776 := by rw [show_run h16 hpush]; exact best_small h16 hpush
          have HC := Lib.hid (hr.step h4 h16 hA hy0 hy1)
          obtain ⟨SH, hSH⟩ : ∃ SH, SH = showF (lastN (2 * N) (A ++ [y + 2 * (N : Int)])) := ⟨_, rfl⟩
          rw [← hSH] at hge hnx hsr HC
          have hroom : RoomV w.heap.size wr 2 u8 (A.map (Value.int .i64)) := by obtain ⟨v1, -, h, -, -⟩ := hr; exact h
          obtain ⟨g, off, cp, hve, -, -, -, hcs⟩ := hroom.at1 (by rw [List.length_map]; omega)
          rw [List.length_map, hAl] at hve
          subst hve
          have ck := hcs k (.int .i64 y) (by rw [List.getElem?_map, hy]; rfl)
          have HK := Lib.hid (And.intro hAl (And.intro hpush (And.intro hSH hy)))
          clear hsh hAl hA hr hroom hcs hpush hSH hy
          obtain ⟨M, hM⟩ : ∃ M, M = 2 * N + k := ⟨_, rfl⟩
          have hkM : k < M := by omega
          have hM1 : M ≤ 1000 := by omega
          have HM := Lib.hid hM
          rw [← hM] at HC ⊢
          clear hM
          go_wp2_with fail
          refine HC.out.mono ?_
          rintro e w3 ⟨rfl, hrb⟩
          have HB := Lib.hid hrb
          have hroom : RoomV w.heap.size w3 2 (.slice (some ⟨g, off, none⟩) M cp) (A.map (Value.int .i64)) := by obtain ⟨v1, -, h, -, -⟩ := hrb; exact h
          have hsz : w.heap.size ≤ w3.heap.size := by obtain ⟨v1, -, -, -, h⟩ := hrb; exact h.size
          have HRM := Lib.hid hroom
          clear hrb hroom HC ck
          by_cases h0 : 0 < k
          · have hS := hnx h0
            clear hnx
            subst hS
            go_wp2_with (at_builtin; refine wpList_appR app_i64' (by rfl) (.tmp 80) (.tmp 82) (by rfl) (B := w.heap.size) (by simp; omega) (.slice (some ⟨g, off, none⟩) M cp) (A.map (Value.int .i64)) (by rfl) (HRM.out.block (fun k hk => Below.heap_alloc _ _ _ (HRM.out.lt k hk).2)) ⟨w3.heap.size, 0, none⟩ 1 (.int .i64 (y + 2 * (N : Int))) (by rfl) (by first | rfl | simp | go_simp) rfl (by rw [List.length_map, HK.out.1]; omega) ?_; intro v2 w4 hro2 hg2 hl2; obtain ⟨g2, off2, cp2, rfl, -, -, -, hcs⟩ := hro2.at1 (by simp); have c2 := hcs k (.int .i64 y) (by rw [List.getElem?_append_left (by rw [List.length_map, HK.out.1]; omega), List.getElem?_map, HK.out.2.2.2]; rfl); have hln : (A.map (Value.int .i64) ++ [Value.int .i64 (y + 2 * (N : Int))]).length = M + 1 := (by rw [List.length_append, List.length_map, HK.out.1, HM.out]; rfl); rw [hln] at hro2 hl2 ⊢; have H2 := Lib.hid (And.intro hro2 (And.intro hg2 hl2)); clear hro2 hg2 hl2 hcs hln)
            refine ⟨⟨k + 1, A ++ [y + 2 * (N : Int)], sh + 1, by omega, by go_num, rfl, ⟨by omega, hsr⟩, fun _ => HK.out.2.2.1, by rw [List.length_append, HK.out.1]; simp; omega, HK.out.2.1, HB.out.push ((Below.refl _ _).alloc (Nat.le_refl _) _) (by simp) H2.out.1 H2.out.2.1 H2.out.2.2 rfl⟩, by simp [intOf]; omega⟩
          · have hk0 : (k : Int) ≤ 0 := by omega
            clear hnx
            go_wp2_with (at_builtin; refine wpList_appR app_i64' (by rfl) (.tmp 80) (.tmp 82) (by rfl) (B := w.heap.size) (by simp; omega) (.slice (some ⟨g, off, none⟩) M cp) (A.map (Value.int .i64)) (by rfl) (HRM.out.block (fun k hk => Below.heap_alloc _ _ _ (HRM.out.lt k hk).2)) ⟨w3.heap.size, 0, none⟩ 1 (.int .i64 (y + 2 * (N : Int))) (by rfl) (by first | rfl | simp | go_simp) rfl (by rw [List.length_map, HK.out.1]; omega) ?_; intro v2 w4 hro2 hg2 hl2; obtain ⟨g2, off2, cp2, rfl, -, -, -, hcs⟩ := hro2.at1 (by simp); have c2 := hcs k (.int .i64 y) (by rw [List.getElem?_append_left (by rw [List.length_map, HK.out.1]; omega), List.getElem?_map, HK.out.2.2.2]; rfl); have hln : (A.map (Value.int .i64) ++ [Value.int .i64 (y + 2 * (N : Int))]).length = M + 1 := (by rw [List.length_append, List.length_map, HK.out.1, HM.out]; rfl); rw [hln] at hro2 hl2 ⊢; have H2 := Lib.hid (And.intro hro2 (And.intro hg2 hl2)); clear hro2 hg2 hl2 hcs hln)
            refine ⟨⟨k + 1, A ++ [y + 2 * (N : Int)], SH, by omega, by go_num, rfl, ⟨by omega, hsr⟩, fun _ => HK.out.2.2.1, by rw [List.length_append, HK.out.1]; simp; omega, HK.out.2.1, HB.out.push ((Below.refl _ _).alloc (Nat.le_refl _) _) (by simp) H2.out.1 H2.out.2.1 H2.out.2.2 rfl⟩, by simp [intOf]; omega⟩
        · have hBw : Below w.heap.size w wr := by obtain ⟨v1, -, -, -, h⟩ := hr; exact h
          have HBB := Lib.hid hBw
          clear hr hBw hA hAl hsh
          go_wp2_with fail
          refine (aglives_any _).mono ?_
          rintro e w' h'
          have he := h'.1
          have HL := Lib.hid h'.2
          clear h'
          subst he
          go_wp2_with fail
          go_ret
          exact OkPost.of HBB.out ⟨rfl, HL.out⟩
theorem agrun_any (p : Int) (hp : 0 ≤ p ∧ p ≤ 255) (a : Option Addr) (len cap : Nat) (l : List (Int × Int)) (w : World) (hrd : RdP w.heap.size w a len l) (hm : len ≤ maxLen) :
    Calls Try.prog 8 #[.int .u8 p, .slice a len cap] w (OkPost w) := by
  by_cases hbig : 40 < len
  · have hbig' : (40 : Int) < (len : Int) := by omega
    unfold maxLen at hm
    clear hrd
    go_enter Try.func8, Try.ntmps8
    go_wp2_with fail
    refine (aglives_any _).mono ?_
    rintro e w' h'
    have he := h'.1
    have HL := Lib.hid h'.2
    clear h'
    subst he
    go_wp2_with fail
    go_ret
    exact ⟨rfl, HL.out⟩
  · exact agrun_ok p hp.1 hp.2 (4 + p % 13).toNat (by omega) (by omega) (by omega) a len cap l w hrd (by omega)
end Go.Proofs.Ytlfpchkoeipcdaa
