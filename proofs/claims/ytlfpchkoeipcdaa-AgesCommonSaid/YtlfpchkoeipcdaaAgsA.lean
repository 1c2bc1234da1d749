/-
  sennitlaw16.AgesCommon, walked.
-/
import Derived.Test.YtlfpchkoeipcdaaAgs9
import Derived.Test.YtlfpchkoeipcdaaLie
import Derived.Deep.CutBlock
import Derived.Deep.CutRange
namespace Go.Proofs.Ytlfpchkoeipcdaa
open Go.RowKit
set_option linter.unusedVariables false
set_option linter.unusedSimpArgs false

set_option maxRecDepth 100000 in
set_option maxHeartbeats 4000000 in
theorem agcommon_any (n : Int) (a : Option Addr) (len cap : Nat) (L : List Hd) (w : World) (hrd : RdHs (· < w.heap.size) w a len L) (hm1 : len ≤ cap) (hm2 : cap ≤ maxLen) :
    Calls Try.prog 4 #[.int .i64 n, .slice a len cap] w (OkPost w) := by
  unfold maxLen at hm2
  by_cases hbig : 100 < len
  · have hbig' : (100 : Int) < (len : Int) := by omega
    clear hrd
    go_enter Try.func4, Try.ntmps4
    go_wp2_with fail
    refine (aglives_any _).mono ?_
    rintro e w' h'
    have he := h'.1
    have HL := Lib.hid h'.2
    clear h'
    subst he
    go_wp2_with fail
    go_ret
    exact ⟨rfl, HL.out⟩
  · have hbig' : ¬ (100 : Int) < (len : Int) := by omega
    have F0 : Hid (∀ w' : World, Below w.heap.size w w' → RdHs (· < w.heap.size) w' a len L) := Lib.hid fun w' h => hrd.below h (fun _ _ h => h)
    have HR := Lib.hid hrd
    clear hrd
    have hle : len ≤ 100 := by omega
    go_enter Try.func4, Try.ntmps4
    go_upto_block 0 with (at_builtin; refine wpList_appH app_held (by rfl) (.const (.slice none 0 0)) (.tmp 13) (by rfl) w.heap.size _ _ _ (by rfl) (World.ownsRow_nil _ _ _ _) a len cap L (by rfl) HR.out (by omega) (Nat.le_refl _) ?_; intro v1 w1 hown1 hg1 hv1; rw [Nat.zero_add, List.nil_append] at hown1; rw [Nat.zero_add] at hv1; obtain ⟨x1, c1, rfl⟩ := hv1; have H1 := Lib.hid (And.intro hown1 hg1); clear hown1 hg1)
    have hwx : ∃ ax cx, (Value.slice x1 len c1) = .slice ax len cx ∧ RdHs (w.heap.size ≤ ·) w1 ax len L ∧ len ≤ cx ∧ cx ≤ maxLen := RdHs.of_own (by simpa [flatH] using H1.out.1) HR.out.2.1
    obtain ⟨ax, cx, he, hrt, hm3, hm4⟩ := hwx
    cases he
    have hB1 : Below w.heap.size w w1 := (Below.refl _ _).grown H1.out.2 (Nat.le_refl _) (fun k hk => by cases hk)
    have HT := Lib.hid hrt
    have HB1 := Lib.hid hB1
    have HO := Lib.hid (OwnHs.nil w1 52 w1 (Below.refl _ _))
    have hbase1 := hB1.size
    clear hrt hB1 H1
    go_wp2_with fail
    go_loopw [6, 7] (fun v i wr => ∃ k : Nat, k ≤ len ∧ i = .int .i64 k ∧ OwnHs w1 52 v (L.take k) wr) (fun _ i _ => len - (intOf i).toNat)
    case atStart => exact ⟨0, by omega, rfl, HO.out⟩
    case round =>
      obtain ⟨k, hk, rfl, ho⟩ := hrel
      by_cases hlt : k < len
      · have hB2 : Below w.heap.size w wr := HB1.out.trans (ho.2.2.mono hbase1)
        obtain ⟨b, off, is, n1, r, rfl, -, hbw, hlk, hok, hlr, hlc1, h1, h2, h3, h4, h5, h6, h7, h8⟩ := HR.out.at_ k hlt
        have hbl := ho.2.2
        have r1 := row_below hB2 (p := ⟨b, off + k * 56 + 1, none⟩) hbw 55
        have g1 : hasRow wr ⟨b, off + k * 56 + 1, none⟩ 55 = true := r1.1.trans h3
        have g2 : rowOf wr ⟨b, off + k * 56 + 1, none⟩ 55 = .int .i64 n1 :: r := r1.2.trans h4
        have g3 : wr.cell? ⟨b, off + k * 56, none⟩ = some (.bool is) := (hB2.cell (p := ⟨b, off + k * 56, none⟩) hbw).trans h5
        have hne := own_ne ho.1 (b := b) (by omega)
        have hbr : b < wr.heap.size := Nat.lt_of_lt_of_le hbw hB2.size
        have HO := Lib.hid ho
        have HK := Lib.hid (And.intro hlk hok)
        have hbase := hbl.size
        have hl1 : (L.take k).length = k := by rw [List.length_take, HR.out.1]; omega
        clear h1 h2 h3 h4 h5 h6 r1 ho hlk hbl hok hB2
        go_wp2_with fail
        go_region_held3 (fun w' => hasRow w' ⟨b, off + k * 56 + 1, none⟩ 55 = true ∧ rowOf w' ⟨b, off + k * 56 + 1, none⟩ 55 = .int .i64 n1 :: r ∧ w'.cell? ⟨b, off + k * 56, none⟩ = some (.bool is) ∧ b < w'.heap.size)
          (first
            | (simp [*, hasRow_drew, rowOf_drew, hasRow_alloc, rowOf_alloc, World.cell?_alloc_some]; done)
            | (simp [*, hasRow_drew, rowOf_drew, hasRow_alloc, rowOf_alloc, World.cell?_alloc_some]; omega)
            | exact ⟨(row_grown hgrow (by simp; omega) hne 55).1.trans ((hasRow_alloc wr _ _ 55 hbr).trans g1), (row_grown hgrow (by simp; omega) hne 55).2.trans ((rowOf_alloc wr _ _ 55 hbr).trans g2), (World.cell?_of_block (hgrow.block _ (by simp; omega) hne)).trans ((World.cell?_alloc_lt wr _ _ hbr).trans g3), Nat.lt_of_lt_of_le (by simp; omega) hgrow.size⟩)
          ((refine step_app app_rheld (by rfl) (.tmp 21) (.tmp 33) (by rfl) w1.heap.size _ _ _ (by rfl) ((HO.out.1.alloc _).drew) ⟨wr.heap.size, 0, none⟩ 1 1 (.bool is :: .int .i64 n1 :: r) (by rfl) (by simp [hlr])
              (hasRow_new wr _ _ 0 56 (by simp [hlr])) ((rowOf_new wr _ _ 0 56 (by simp [hlr])).trans (List.take_of_length_le (by simp [hlr]))) (by simp [hlc1, cell1]) (by omega) (by omega) (by simp; omega) ?_; intro gg cap' w2 hown1 hgrow))
        go_wp2_with fail
        refine ⟨⟨k + 1, by omega, by go_num, ?_⟩, by simp [intOf]; omega⟩
        rw [List.take_add_one, HK.out.1]
        rw [hl1] at hown1
        exact HO.out.push ⟨is, .int .i64 n1 :: r⟩ HK.out.2 hl1 hown1 (HO.out.2.2.alloc hbase _).drew hgrow
      · have : k = len := by omega
        subst this
        rw [List.take_of_length_le (by rw [HR.out.1]; exact Nat.le_refl _)] at ho
        obtain ⟨am, cm, he, q1, q2, q3, q4⟩ := ho.new
        injection he with he
        subst he
        rw [HR.out.1] at q1 q2 ⊢
        have F2 : Hid (∀ w' : World, Below wr.heap.size wr w' → RdHs (· < w.heap.size) w' a k L ∧ RdHs (fun b => w.heap.size ≤ b ∧ b < w1.heap.size) w' x1 k L ∧ RdHs (fun b => w1.heap.size ≤ b ∧ b < wr.heap.size) w' am k L ∧ Below w.heap.size w w') := Lib.hid fun w' h => by
          have hs := q4.size
          have hB : Below w1.heap.size w1 w' := q4.trans (h.mono hs)
          have hBw : Below w.heap.size w w' := HB1.out.trans (hB.mono hbase1)
          exact ⟨F0.out w' hBw, (HT.out.mono (fun b h1 h2 => ⟨h2, h1⟩)).below hB (fun b h1 _ => h1.2), (q1.mono (fun b h1 h2 => ⟨h2, h1⟩)).below h (fun b h1 _ => h1.2), hBw⟩
        clear ho q1 q4
        have HC := Lib.hid (common_any _ n x1 k c1 L wr (F2.out wr (Below.refl _ _)).2.1 hm3 hm4)
        go_wp2_with fail
        refine HC.out.mono ?_
        rintro e w3 ⟨rfl, hb3⟩
        have HB3 := Lib.hid hb3
        clear HC hb3
        have HC := Lib.hid (rcommon_any _ n am k cm L w3 (F2.out w3 HB3.out).2.2.1 q2 q3)
        go_wp2_with fail
        refine HC.out.mono ?_
        rintro e w4 ⟨rfl, hb4⟩
        have HB4 := Lib.hid (HB3.out.trans (hb4.mono HB3.out.size))
        clear HC hb4
        generalize commonF n L = com
        go_wp2_with fail
        go_loopw [8] (fun i wi => ∃ j : Nat, j ≤ k ∧ i = .int .i64 j ∧ Below wr.heap.size wr wi) (fun i _ => k - (intOf i).toNat)
        case atStart => exact ⟨0, by omega, rfl, HB4.out⟩
        case round =>
          obtain ⟨j, hj, rfl, hbi⟩ := hrel
          obtain ⟨f1, f2, -, f4⟩ := F2.out _ hbi
          by_cases hjl : j < k
          · obtain ⟨b, off, is, n1, r, rfl, -, hbw, hlk, hok, hlr, hlc1, h1, h2, -⟩ := f1.at_ j hjl
            obtain ⟨b', off', is', n', r', rfl, -, hbw', hlk', hok', hlr', hlc1', h1', h2', -⟩ := f2.at_ j hjl
            rw [hlk] at hlk'
            cases hlk'
            have hko : okL heldK (Value.bool is :: .int .i64 n1 :: r) = true := by rw [okL_held]; exact hok
            have HBI := Lib.hid hbi
            obtain ⟨X, hX⟩ : ∃ X, X = Value.bool is :: .int .i64 n1 :: r := ⟨_, rfl⟩
            rw [← hX] at h2 h2' hko
            clear f1 f2 f4 hlk hok hlc1 hlc1' hok' hlr' hX hbi hlr
            go_wp2_with fail
            go_region_held3 (fun w' => hasRow w' ⟨b, off + j * 56, none⟩ 56 = true ∧ rowOf w' ⟨b, off + j * 56, none⟩ 56 = X ∧ hasRow w' ⟨b', off' + j * 56, none⟩ 56 = true ∧ rowOf w' ⟨b', off' + j * 56, none⟩ 56 = X) (first | (simp [*, hasRow_drew, rowOf_drew]; done)) (fail)
            go_wp2_with fail
            exact ⟨⟨j + 1, by omega, by go_num, HBI.out.drew⟩, by simp [intOf]; omega⟩
          · have HBB := Lib.hid f4
            clear f1 f2 f4
            go_wp2_with fail
            refine (aglives_any _).mono ?_
            rintro e w' h'
            have he := h'.1
            have HL := Lib.hid h'.2
            clear h'
            subst he
            go_wp2_with fail
            go_ret
            exact OkPost.of HBB.out ⟨rfl, HL.out⟩
end Go.Proofs.Ytlfpchkoeipcdaa
