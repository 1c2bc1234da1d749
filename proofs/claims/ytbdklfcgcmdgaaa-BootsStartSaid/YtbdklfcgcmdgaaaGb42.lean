/-
  sennitlaw15.lives: the chapter's examples hold.
-/
import Derived.Test.YtbdklfcgcmdgaaaGb40
import Derived.Test.YtbdklfcgcmdgaaaGb41
namespace Go.Proofs.Ytbdklfcgcmdgaaa
open Go.RowKit
set_option linter.unusedVariables false
set_option linter.unusedSimpArgs false

theorem VecV.blk {B : Nat} {L : List Hd} {v : Value} {w : World} (hL : L ≠ []) (h : VecV B L v w) : ∃ g, v = .slice (some ⟨g, 0, none⟩) L.length L.length ∧ Blk w g 114 (flatH L).toArray := by
  rcases h with ⟨g, rfl, hb, hg⟩ | ⟨h, -⟩
  · exact ⟨g, rfl, hb⟩
  · exact absurd h hL
theorem rws_rd {w4 : World} {B : Nat} {a b c d : Int} {t1 t2 t3 t4 : Value} (ha : 0 ≤ a ∧ a ≤ 100) (hb : 0 ≤ b ∧ b ≤ 100) (hc : 0 ≤ c ∧ c ≤ 100) (hd : 0 ≤ d ∧ d ≤ 100) (hB : B ≤ w4.heap.size)
    (h1 : RowR (B ≤ ·) w4 (sdR a) t1) (h2 : RowR (B ≤ ·) w4 (sdR b) t2) (h3 : RowR (B ≤ ·) w4 (sdR c) t3) (h4 : RowR (B ≤ ·) w4 (sdR d) t4) :
    RdRs (B ≤ ·) (w4.alloc (.cells ((sdR a).vals t1 ++ ((sdR b).vals t2 ++ ((sdR c).vals t3 ++ (sdR d).vals t4))).toArray 54)) (some ⟨w4.heap.size, 0, none⟩) 4 (rws a b c d) := by
  have hbel : ∀ o, Below w4.heap.size w4 (w4.alloc o) := fun o => (Below.refl _ _).alloc (Nat.le_refl _) _
  have := rdRs_ps (S := (B ≤ ·)) (w := w4.alloc (.cells ((sdR a).vals t1 ++ ((sdR b).vals t2 ++ ((sdR c).vals t3 ++ (sdR d).vals t4))).toArray 54)) (g := w4.heap.size) (t := 54) (ps := [(sdR a, t1), (sdR b, t2), (sdR c, t3), (sdR d, t4)]) (by
      have h := Blk.new w4 54 ((sdR a).vals t1 ++ ((sdR b).vals t2 ++ ((sdR c).vals t3 ++ (sdR d).vals t4))).toArray
      simpa [flatP] using h) (by
      intro p hp
      simp only [List.mem_cons, List.not_mem_nil, or_false] at hp
      rcases hp with rfl | rfl | rfl | rfl
      · exact ⟨sdR_ok ha.1 ha.2, h1.below (hbel _)⟩
      · exact ⟨sdR_ok hb.1 hb.2, h2.below (hbel _)⟩
      · exact ⟨sdR_ok hc.1 hc.2, h3.below (hbel _)⟩
      · exact ⟨sdR_ok hd.1 hd.2, h4.below (hbel _)⟩)
  exact this.mono (fun b _ h => by rcases h with rfl | h; exact hB; exact h)
def rw3 : Rw := ⟨true, .int .i64 3 :: cellR, []⟩
theorem rw3_ok : rw3.ok := ⟨sdH_ok (age := 3) (by omega) (by omega), by simp [rw3]⟩
theorem tab_rd (w4 : World) :
    RdRs (w4.heap.size ≤ ·) (w4.alloc (.cells (rw3.vals (.slice none 0 0) ++ rowZ).toArray 54)) (some ⟨w4.heap.size, 0, none⟩) 2 [rw3, rw0] := by
  have := rdRs_ps (S := fun _ => False) (w := w4.alloc (.cells (rw3.vals (.slice none 0 0) ++ rowZ).toArray 54)) (g := w4.heap.size) (t := 54) (ps := [(rw3, .slice none 0 0), (rw0, .slice none 0 0)]) (by
      have h := Blk.new w4 54 (rw3.vals (.slice none 0 0) ++ rowZ).toArray
      simpa [flatP, rw0_vals] using h) (by
      intro p hp
      simp only [List.mem_cons, List.not_mem_nil, or_false] at hp
      rcases hp with rfl | rfl
      · exact ⟨rw3_ok, rowR_nil _ _ _ rfl⟩
      · exact ⟨rw0_ok, rowR_nil _ _ _ rfl⟩)
  exact this.mono (fun b _ h => by rcases h with rfl | h; exact Nat.le_refl _; exact h.elim)
theorem tab_3 : tabL [rw3, rw0] = [sdH 3, hd0] := rfl

set_option maxRecDepth 100000 in
set_option maxHeartbeats 4000000 in
theorem lives15_any (w : World) : Calls Try.prog 38 #[] w fun e w' => e = .returned (.bool true) ∧ Below w.heap.size w w' := by
  go_enter Try.func38, Try.ntmps38
  have hlen : ∀ (x : Int) (tv : Value), 0 ≤ x → x ≤ 100 → ((sdR x).vals tv).length = 57 := fun x tv h0 h1 => Rw.len (sdR_ok h0 h1) tv
  go_wp2_with fail
  refine (said4_any 9 (by omega) (by omega) _).mono ?_
  rintro e wA1 ⟨tA1, rfl, hr1, hb1⟩
  go_wp2_with fail
  refine (said4_any 5 (by omega) (by omega) _).mono ?_
  rintro e wA2 ⟨tA2, rfl, hr2, hb2⟩
  go_wp2_with fail
  refine (said4_any 5 (by omega) (by omega) _).mono ?_
  rintro e wA3 ⟨tA3, rfl, hr3, hb3⟩
  go_wp2_with fail
  refine (said4_any 5 (by omega) (by omega) _).mono ?_
  rintro e wA4 ⟨tA4, rfl, hr4, hb4⟩
  have s1 := hb1.size
  have s2 := hb2.size
  have s3 := hb3.size
  have s4 := hb4.size
  have hrd := rws_rd (a := 9) (b := 5) (c := 5) (d := 5) (w4 := wA4) (B := w.heap.size) (by omega) (by omega) (by omega) (by omega) (by omega)
    (((hr1.below hb2).below hb3).below hb4) (((hr2.mono (fun b _ h => by omega)).below hb3).below hb4) ((hr3.mono (fun b _ h => by omega)).below hb4) (hr4.mono (fun b _ h => by omega))
  have hB4 : Below w.heap.size w wA4 := below_step (below_step (below_step hb1 hb2 s1) hb3 (by omega)) hb4 (by omega)
  have l1 := hlen 9 tA1 (by omega) (by omega)
  have l2 := hlen 5 tA2 (by omega) (by omega)
  have l3 := hlen 5 tA3 (by omega) (by omega)
  have l4 := hlen 5 tA4 (by omega) (by omega)
  have hB5 := hB4.alloc hB4.size (.cells ((sdR 9).vals tA1 ++ ((sdR 5).vals tA2 ++ ((sdR 5).vals tA3 ++ (sdR 5).vals tA4))).toArray 54)
  have H := Lib.hid (And.intro hrd hB5)
  clear hr1 hr2 hr3 hr4 hrd hB4 hB5 hb1 hb2 hb3 hb4 s1 s2 s3 s4
  go_wp2_with fail
  refine (agree_any _ 4 _ 4 4 _ _ H.out.1 (Nat.le_refl _) (by simp [maxLen])).mono ?_
  rintro e wA ⟨⟨vA, rfl, hvA⟩, hbA⟩
  rw [agr_a] at hvA
  obtain ⟨gA, rfl, hkA⟩ := hvA.blk (by simp)
  have hBA : Below w.heap.size w wA := below_step H.out.2 hbA H.out.2.size
  have KA := Lib.hid (And.intro hkA hBA)
  clear H hkA hBA hvA hbA l1 l2 l3 l4
  go_wp2_with fail
  refine (said4_any 9 (by omega) (by omega) _).mono ?_
  rintro e wB1 ⟨tB1, rfl, hr1, hb1⟩
  go_wp2_with fail
  refine (said4_any 5 (by omega) (by omega) _).mono ?_
  rintro e wB2 ⟨tB2, rfl, hr2, hb2⟩
  go_wp2_with fail
  refine (said4_any 6 (by omega) (by omega) _).mono ?_
  rintro e wB3 ⟨tB3, rfl, hr3, hb3⟩
  go_wp2_with fail
  refine (said4_any 5 (by omega) (by omega) _).mono ?_
  rintro e wB4 ⟨tB4, rfl, hr4, hb4⟩
  have s1 := hb1.size
  have s2 := hb2.size
  have s3 := hb3.size
  have s4 := hb4.size
  have hrd := rws_rd (a := 9) (b := 5) (c := 6) (d := 5) (w4 := wB4) (B := wA.heap.size) (by omega) (by omega) (by omega) (by omega) (by omega)
    (((hr1.below hb2).below hb3).below hb4) (((hr2.mono (fun b _ h => by omega)).below hb3).below hb4) ((hr3.mono (fun b _ h => by omega)).below hb4) (hr4.mono (fun b _ h => by omega))
  have hB4 : Below wA.heap.size wA wB4 := below_step (below_step (below_step hb1 hb2 s1) hb3 (by omega)) hb4 (by omega)
  have l1 := hlen 9 tB1 (by omega) (by omega)
  have l2 := hlen 5 tB2 (by omega) (by omega)
  have l3 := hlen 6 tB3 (by omega) (by omega)
  have l4 := hlen 5 tB4 (by omega) (by omega)
  have hB5 := hB4.alloc hB4.size (.cells ((sdR 9).vals tB1 ++ ((sdR 5).vals tB2 ++ ((sdR 6).vals tB3 ++ (sdR 5).vals tB4))).toArray 54)
  have H := Lib.hid (And.intro hrd hB5)
  clear hr1 hr2 hr3 hr4 hrd hB4 hB5 hb1 hb2 hb3 hb4 s1 s2 s3 s4
  go_wp2_with fail
  refine (agree_any _ 4 _ 4 4 _ _ H.out.1 (Nat.le_refl _) (by simp [maxLen])).mono ?_
  rintro e wB ⟨⟨vB, rfl, hvB⟩, hbB⟩
  rw [agr_b] at hvB
  obtain ⟨gB, rfl, hkB⟩ := hvB.blk (by simp)
  have hBB : Below wA.heap.size wA wB := below_step H.out.2 hbB H.out.2.size
  have KB := Lib.hid (And.intro hkB hBB)
  clear H hkB hBB hvB hbB l1 l2 l3 l4
  go_wp2_with fail
  refine (said4_any 9 (by omega) (by omega) _).mono ?_
  rintro e wC1 ⟨tC1, rfl, hr1, hb1⟩
  go_wp2_with fail
  refine (said4_any 5 (by omega) (by omega) _).mono ?_
  rintro e wC2 ⟨tC2, rfl, hr2, hb2⟩
  go_wp2_with fail
  refine (said4_any 6 (by omega) (by omega) _).mono ?_
  rintro e wC3 ⟨tC3, rfl, hr3, hb3⟩
  go_wp2_with fail
  refine (said4_any 7 (by omega) (by omega) _).mono ?_
  rintro e wC4 ⟨tC4, rfl, hr4, hb4⟩
  have s1 := hb1.size
  have s2 := hb2.size
  have s3 := hb3.size
  have s4 := hb4.size
  have hrd := rws_rd (a := 9) (b := 5) (c := 6) (d := 7) (w4 := wC4) (B := wB.heap.size) (by omega) (by omega) (by omega) (by omega) (by omega)
    (((hr1.below hb2).below hb3).below hb4) (((hr2.mono (fun b _ h => by omega)).below hb3).below hb4) ((hr3.mono (fun b _ h => by omega)).below hb4) (hr4.mono (fun b _ h => by omega))
  have hB4 : Below wB.heap.size wB wC4 := below_step (below_step (below_step hb1 hb2 s1) hb3 (by omega)) hb4 (by omega)
  have l1 := hlen 9 tC1 (by omega) (by omega)
  have l2 := hlen 5 tC2 (by omega) (by omega)
  have l3 := hlen 6 tC3 (by omega) (by omega)
  have l4 := hlen 7 tC4 (by omega) (by omega)
  have hB5 := hB4.alloc hB4.size (.cells ((sdR 9).vals tC1 ++ ((sdR 5).vals tC2 ++ ((sdR 6).vals tC3 ++ (sdR 7).vals tC4))).toArray 54)
  have H := Lib.hid (And.intro hrd hB5)
  clear hr1 hr2 hr3 hr4 hrd hB4 hB5 hb1 hb2 hb3 hb4 s1 s2 s3 s4
  go_wp2_with fail
  refine (agree_any _ 4 _ 4 4 _ _ H.out.1 (Nat.le_refl _) (by simp [maxLen])).mono ?_
  rintro e wC ⟨⟨vC, rfl, hvC⟩, hbC⟩
  rw [agr_c] at hvC
  obtain ⟨gC, rfl, hkC⟩ := hvC.blk (by simp)
  have hBC : Below wB.heap.size wB wC := below_step H.out.2 hbC H.out.2.size
  have KC := Lib.hid (And.intro hkC hBC)
  clear H hkC hBC hvC hbC l1 l2 l3 l4
  have hT := tab_rd wC
  have e3 : rw3.vals (.slice none 0 0) ++ rowZ = Value.bool true :: Value.int .i64 3 :: (cellR ++ Value.slice none 0 0 :: rowZ) := by simp [rw3, Rw.vals]
  rw [e3] at hT
  have hTB := (Below.refl wC.heap.size wC).alloc (Nat.le_refl _) (.cells (Value.bool true :: Value.int .i64 3 :: (cellR ++ Value.slice none 0 0 :: rowZ)).toArray 54)
  have H := Lib.hid (And.intro hT hTB)
  clear hT e3 hTB
  go_wp2_with fail
  refine (table_any _ _ 2 2 _ _ H.out.1 (Nat.le_refl _) (by simp [maxLen]) (by omega)).mono ?_
  rintro e wD ⟨⟨vD, rfl, hvD⟩, hbD⟩
  rw [tab_3] at hvD
  obtain ⟨gD, rfl, hkD⟩ := hvD.blk (by simp)
  have hBD : Below wC.heap.size wC wD := below_step H.out.2 hbD H.out.2.size
  clear H hvD hbD
  have hc5 : (Value.bool true :: Value.int .i64 5 :: cellR).all cell1 = true := Hd.cell1 (h := sdH 5) (sdH_ok (by omega) (by omega))
  have hl5 : (Value.bool true :: Value.int .i64 5 :: cellR).length = 56 := by simp [len_cellR]
  go_upto_region 6 with fail
  have hB6 : Below wD.heap.size wD (wD.alloc (.cells (Value.bool true :: Value.int .i64 5 :: cellR).toArray 114)) := (Below.refl _ _).alloc (Nat.le_refl _) _
  have k5 : Blk (wD.alloc (.cells (Value.bool true :: Value.int .i64 5 :: cellR).toArray 114)) wD.heap.size 114 (Value.bool true :: Value.int .i64 5 :: cellR).toArray := Blk.new _ _ _
  generalize wD.alloc (.cells (Value.bool true :: Value.int .i64 5 :: cellR).toArray 114) = w6 at hB6 k5 ⊢
  have sA := KA.out.2.size
  have sB := KB.out.2.size
  have sC := KC.out.2.size
  have sD := hBD.size
  have s6 := hB6.size
  have BC6 : Below wC.heap.size wC w6 := below_step hBD hB6 sD
  have BB6 : Below wB.heap.size wB w6 := below_step KC.out.2 BC6 sC
  have BA6 : Below wA.heap.size wA w6 := below_step KB.out.2 BB6 sB
  have B06 : Below w.heap.size w w6 := below_step KA.out.2 BA6 sA
  have h5o := sdH_ok (age := 5) (by omega) (by omega)
  have h3o := sdH_ok (age := 3) (by omega) (by omega)
  have hX : ∀ x ∈ [sdH 5, hd0, hd0, hd0], x.ok := fun x hx => by
    simp at hx; rcases hx with rfl | rfl; exact h5o; exact hd0_ok
  have hC : ∀ x ∈ [hd0, hd0, hd0, hd0], x.ok := fun x hx => by
    simp at hx; rw [hx]; exact hd0_ok
  have hD : ∀ x ∈ [sdH 3, hd0], x.ok := fun x hx => by
    simp at hx; rcases hx with rfl | rfl; exact h3o; exact hd0_ok
  have kA := KA.out.1.below BA6 KA.out.1.lt
  have kB := KB.out.1.below BB6 KB.out.1.lt
  have kC := KC.out.1.below BC6 KC.out.1.lt
  have kD := hkD.below hB6 hkD.lt
  have row0 : ∀ {g : Nat} {L : List Hd} {x : Hd}, (∀ x ∈ L, x.ok) → Blk w6 g 114 (flatH L).toArray → ∀ k, L[k]? = some x → hasRow w6 ⟨g, k * 56, none⟩ 56 = true ∧ rowOf w6 ⟨g, k * 56, none⟩ 56 = x.vals ∧ w6.cell? ⟨g, k * 56, none⟩ = some (.bool x.is) := fun {g L x} hL hb k hk => by
    have hrd : RdHs (· = g) w6 (some ⟨g, 0, none⟩) L.length L := RdHs.of_blk (r := []) (by simpa using hb) hL
    obtain ⟨b, off, e, -, -, h1, h2⟩ := hrd.2.2 k x hk
    cases e
    rw [Nat.zero_add] at h1 h2
    exact ⟨h1, h2, by have := row_cell h1 h2 0 (by omega); simpa [Hd.vals] using this⟩
  obtain ⟨a1, a2, -⟩ := row0 hX kA 0 rfl
  obtain ⟨-, -, a3⟩ := row0 hX kA 1 rfl
  obtain ⟨b1, b2, -⟩ := row0 hX kB 0 rfl
  obtain ⟨-, -, c1⟩ := row0 hC kC 0 rfl
  obtain ⟨d1, d2, -⟩ := row0 hD kD 0 rfl
  obtain ⟨-, -, d3⟩ := row0 hD kD 1 rfl
  obtain ⟨f1, f2, -⟩ := k5.whole (n := 56) (by simp [len_cellR])
  simp only [Nat.zero_mul, Nat.one_mul] at a1 a2 a3 b1 b2 c1 d1 d2 d3
  have ex : (sdH 5).vals = Value.bool true :: Value.int .i64 5 :: cellR := rfl
  have ex3 : (sdH 3).vals = Value.bool true :: Value.int .i64 3 :: cellR := rfl
  have h5k := Hd.vals_ok h5o
  have h3k := Hd.vals_ok h3o
  have eh0 : hd0.is = false := rfl
  rw [ex] at a2 b2 h5k
  rw [ex3] at d2 h3k
  rw [eh0] at a3 c1 d3
  have HF := Lib.hid B06
  clear row0 hX hC hD kA kB kC kD BA6 BB6 BC6 B06 hB6 hBD hkD k5 KA KB KC ex ex3 h5o h3o sA sB sC sD s6 eh0 hlen
  go_region_held3 (fun w' => hasRow w' ⟨gA, 0, none⟩ 56 = true ∧ rowOf w' ⟨gA, 0, none⟩ 56 = Value.bool true :: Value.int .i64 5 :: cellR ∧ w'.cell? ⟨gA, 56, none⟩ = some (.bool false) ∧ hasRow w' ⟨gB, 0, none⟩ 56 = true ∧ rowOf w' ⟨gB, 0, none⟩ 56 = Value.bool true :: Value.int .i64 5 :: cellR ∧ w'.cell? ⟨gC, 0, none⟩ = some (.bool false) ∧ hasRow w' ⟨gD, 0, none⟩ 56 = true ∧ rowOf w' ⟨gD, 0, none⟩ 56 = Value.bool true :: Value.int .i64 3 :: cellR ∧ w'.cell? ⟨gD, 56, none⟩ = some (.bool false) ∧ hasRow w' ⟨wD.heap.size, 0, none⟩ 56 = true ∧ rowOf w' ⟨wD.heap.size, 0, none⟩ 56 = Value.bool true :: Value.int .i64 5 :: cellR) (first | (simp only [hasRow_drew, rowOf_drew, World.cell?_drew]; exact ⟨a1, a2, a3, b1, b2, c1, d1, d2, d3, f1, f2⟩)) (fail)
  go_wp2_with fail
  go_ret
  exact ⟨rfl, HF.out.drew⟩
end Go.Proofs.Ytbdklfcgcmdgaaa
