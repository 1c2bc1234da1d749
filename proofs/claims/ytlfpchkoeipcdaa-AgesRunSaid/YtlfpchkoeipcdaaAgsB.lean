/-
  sennitlaw16.AgesPlay, walked.
-/
import Derived.Test.YtlfpchkoeipcdaaAgs9
import Derived.Test.YtlfpchkoeipcdaaAgs6
import Derived.Deep.CutBlock
import Derived.Deep.CutRange
namespace Go.Proofs.Ytlfpchkoeipcdaa
open Go.RowKit
set_option linter.unusedVariables false
set_option linter.unusedSimpArgs false

/-- A slice of pairs of integers that reads as a list, in blocks that were there. -/
def RdP (B : Nat) (w : World) (a : Option Addr) (len : Nat) (l : List (Int × Int)) : Prop :=
  l.length = len ∧ ∀ (k : Nat) (p : Int × Int), l[k]? = some p → (∃ b off, a = some ⟨b, off, none⟩ ∧ b < B ∧ w.cell? ⟨b, off + k * 2, none⟩ = some (.int .i64 p.1) ∧ w.cell? ⟨b, off + k * 2 + 1, none⟩ = some (.int .i64 p.2)) ∧
    (-9223372036854775808 ≤ p.1 ∧ p.1 ≤ 9223372036854775807) ∧ -9223372036854775808 ≤ p.2 ∧ p.2 ≤ 9223372036854775807
theorem RdP.below {B : Nat} {w w' : World} {a : Option Addr} {len : Nat} {l : List (Int × Int)} (h : RdP B w a len l) (hb : Below B w w') : RdP B w' a len l :=
  ⟨h.1, fun k p hk => by
    obtain ⟨⟨b, off, e, h1, h2, h3⟩, h4⟩ := h.2 k p hk
    exact ⟨⟨b, off, e, h1, (hb.cell (p := ⟨b, off + k * 2, none⟩) h1).trans h2, (hb.cell (p := ⟨b, off + k * 2 + 1, none⟩) h1).trans h3⟩, h4⟩⟩

theorem lastN_step {m : Nat} (hm : 1 ≤ m) (A : List Int) (x : Int) : lastN m (lastN m A ++ [x]) = lastN m (A ++ [x]) := by
  unfold lastN
  have e : A.drop (A.length - m) ++ [x] = (A ++ [x]).drop (A.length - m) := by rw [List.drop_append_of_le_length (by omega)]
  rw [e, List.drop_drop]
  congr 1
  simp only [List.length_drop, List.length_append, List.length_cons, List.length_nil]
  omega
def PlayA (W : World) (n : Nat) (A1 A2 : List Int) (w : World) : Prop :=
  ∃ v1 v2, CkR W.heap.size W.heap.size n v1 (lastN (2 * n) A1) w ∧ RkR W.heap.size (W.heap.size + 1) n v2 A2 w ∧ (∀ k, v1.ownBlock = some k → v2.ownBlock = some k → False) ∧ Below W.heap.size W w
theorem PlayA.heap {W : World} {n : Nat} {A1 A2 : List Int} {w w' : World} (h : PlayA W n A1 A2 w) (hh : w'.heap = w.heap) (ho : w'.os = w.os) (ht : w'.tape = w.tape) (hu : w'.output = w.output) : PlayA W n A1 A2 w' := by
  obtain ⟨v1, v2, ⟨h1, h2⟩, ⟨h3, h4⟩, h5, h6⟩ := h
  refine ⟨v1, v2, ⟨?_, h2.block (fun k _ => by rw [hh])⟩, ⟨?_, h4.block (fun k _ => by rw [hh])⟩, h5, ⟨ho.trans h6.os, ht.trans h6.tape, hu.trans h6.output, by rw [hh]; exact h6.size, fun k hk => by rw [hh]; exact h6.block k hk⟩⟩
  · unfold Blk at *; rw [hh]; exact h1
  · unfold Blk at *; rw [hh]; exact h3
theorem PlayA.start (W : World) (n : Nat) : PlayA W n [] [] ((W.alloc (.cells #[.int .i64 n, .slice none 0 0] 68)).alloc (.cells #[.int .i64 n, .slice none 0 0] 86)) :=
  ⟨.slice none 0 0, .slice none 0 0, ⟨(Blk.new _ _ _).alloc _, .inl ⟨rfl, by simp [lastN]⟩⟩, ⟨blk_new' _ _ _ (by simp), .inl ⟨rfl, rfl⟩⟩, (fun k h => by cases h), ((Below.refl _ _).alloc (Nat.le_refl _) _).alloc (by simp) _⟩
theorem lastN_mem {m : Nat} {l : List Int} {a : Int} (h : a ∈ lastN m l) : a ∈ l := List.mem_of_mem_drop h

theorem PlayA.step1 {W : World} {n : Nat} (h4 : 4 ≤ n) (h16 : n ≤ 16) {A : List Int} (hA : ∀ a ∈ A, -1 ≤ a ∧ a ≤ 1099511627776) (common cold : Int) (h0 : -9223372036854775808 ≤ common ∧ common ≤ 9223372036854775807) {w : World} (h : PlayA W n A A w) :
    Calls Try.prog 17 #[.pointer (some ⟨W.heap.size, 0, none⟩), .int .i64 common, .int .i64 cold] w fun e w' => e = .returned (.tuple #[.int .i64 (ownF n common cold), .int .i64 (showF (lastN (2 * n) (A ++ [ownF n common cold])))]) ∧ PlayA W n (A ++ [ownF n common cold]) A w' := by
  obtain ⟨v1, v2, hck, ⟨hb2, hr2⟩, hne, hB⟩ := h
  refine (ckstep_any W.heap.size W.heap.size n h4 h16 v1 (lastN (2 * n) A) (fun a ha => hA a (lastN_mem ha)) (by rw [lastN_len]; omega) common cold h0 w hck hB.size).mono ?_
  rintro e w' ⟨rfl, ⟨v1', hck', hv'⟩, hch⟩
  rw [lastN_step (by omega)] at hck' ⊢
  refine ⟨rfl, v1', v2, hck', ⟨hb2.chg hch ?_, hr2.block (fun k hk => hch.block k (hr2.lt k hk).2 ?_)⟩, ?_, below_chg hB hch hB.size ?_⟩
  · rintro (h | h)
    · omega
    · exact hck.2.not_ hb2 (by decide) h.symm
  · rintro (h | h)
    · subst h
      exact hr2.not_ hck.1 (by decide) hk
    · exact hne k h.symm hk
  · intro k hk1 hk2
    rcases hv' with h | h
    · rw [h] at hk1
      exact hne k hk1 hk2
    · have := h k hk1
      have := (hr2.lt k hk2).2
      omega
  · rintro k (h | h)
    · omega
    · exact (hck.2.lt k h.symm).1
theorem PlayA.step2 {W : World} {n : Nat} (h4 : 4 ≤ n) (h16 : n ≤ 16) {A1 A : List Int} (hA : ∀ a ∈ A, -1 ≤ a ∧ a ≤ 1099511627776) (hlen : A.length ≤ 100000) (common cold : Int) {w : World} (h : PlayA W n A1 A w) :
    Calls Try.prog 18 #[.pointer (some ⟨W.heap.size + 1, 0, none⟩), .int .i64 common, .int .i64 cold] w fun e w' => e = .returned (.tuple #[.int .i64 (ownF n common cold), .int .i64 (showF (lastN (2 * n) (A ++ [ownF n common cold])))]) ∧ PlayA W n A1 (A ++ [ownF n common cold]) w' := by
  obtain ⟨v1, v2, ⟨hb1, hr1⟩, hrk, hne, hB⟩ := h
  refine (rkstep_any W.heap.size (W.heap.size + 1) n h4 h16 v2 A hA hlen common cold w hrk hB.size).mono ?_
  rintro e w' ⟨rfl, ⟨v2', hrk', hv'⟩, hch⟩
  refine ⟨rfl, v1, v2', ⟨hb1.chg hch ?_, hr1.block (fun k hk => hch.block k (hr1.lt k hk).2 ?_)⟩, hrk', ?_, below_chg hB hch hB.size ?_⟩
  · rintro (h | h)
    · omega
    · exact hrk.2.not_ hb1 (by decide) h.symm
  · rintro (h | h)
    · subst h
      exact hr1.not_ hrk.1 (by decide) hk
    · exact hne k hk h.symm
  · intro k hk1 hk2
    rcases hv' with h | h
    · rw [h] at hk2
      exact hne k hk1 hk2
    · have := h k hk2
      have := (hr1.lt k hk1).2
      omega
  · rintro k (h | h)
    · omega
    · exact (hrk.2.lt k h.symm).1

/-- all the ages -/
def agesA (n : Int) (l : List (Int × Int)) : List Int := l.map fun p => ownF n p.1 p.2

set_option maxRecDepth 100000 in
set_option maxHeartbeats 4000000 in
theorem agplay_ok (n : Nat) (h4 : 4 ≤ n) (h16 : n ≤ 16) (a : Option Addr) (len cap : Nat) (l : List (Int × Int)) (w : World) (hrd : RdP w.heap.size w a len l) (hle : len ≤ 300) :
    Calls Try.prog 5 #[.int .i64 n, .slice a len cap] w (OkPost w) := by
  have HR := Lib.hid hrd
  clear hrd
  have hbig : ¬ (300 : Int) < (len : Int) := by omega
  have HS := Lib.hid (PlayA.start w n)
  go_enter Try.func5, Try.ntmps5
  go_wp2_with fail
  refine (agnew_ok n _ (by omega) (by omega)).mono ?_
  rintro e w' ⟨rfl, rfl⟩
  go_wp2_with fail
  refine (ragnew_ok n _ (by omega) (by omega)).mono ?_
  rintro e w' ⟨rfl, rfl⟩
  go_wp2_with fail
  generalize ((w.alloc (.cells #[.int .i64 n, .slice none 0 0] 68)).alloc (.cells #[.int .i64 n, .slice none 0 0] 86)) = w1 at HS ⊢
  go_loopw [9] (fun i wr => ∃ k : Nat, k ≤ len ∧ i = .int .i64 k ∧ PlayA w n (agesA n (l.take k)) (agesA n (l.take k)) wr) (fun i _ => len - (intOf i).toNat)
  case atStart => exact ⟨0, by omega, rfl, by simpa [agesA] using HS.out⟩
  case round =>
    obtain ⟨k, hk, rfl, hr⟩ := hrel
    by_cases hlt : k < len
    · have hpl : l.length = len := HR.out.1
      obtain ⟨p, hp⟩ : ∃ p, l[k]? = some p := ⟨_, List.getElem?_eq_getElem (by omega)⟩
      obtain ⟨⟨b, off, rfl, hbw, hc0, hc1⟩, hp0, hp1⟩ := HR.out.2 k p hp
      obtain ⟨x, y⟩ := p
      simp only at hc0 hc1 hp0 hp1
      have hBw : Below w.heap.size w wr := by obtain ⟨v1, v2, -, -, -, h⟩ := hr; exact h
      have g0 : wr.cell? ⟨b, off + k * 2, none⟩ = some (.int .i64 x) := (hBw.cell (p := ⟨b, off + k * 2, none⟩) hbw).trans hc0
      have g1 : wr.cell? ⟨b, off + k * 2 + 1, none⟩ = some (.int .i64 y) := (hBw.cell (p := ⟨b, off + k * 2 + 1, none⟩) hbw).trans hc1
      have hts : agesA n (l.take (k + 1)) = agesA n (l.take k) ++ [ownF n x y] := by rw [List.take_add_one, hp]; simp [agesA]
      have hall : ∀ a ∈ agesA n (l.take k), -1 ≤ a ∧ a ≤ 1099511627776 := fun a ha => by
        obtain ⟨q, -, rfl⟩ := List.mem_map.1 ha
        exact ownF_range _ _ _
      have hal : (agesA n (l.take k)).length ≤ 300 := by simp [agesA]; omega
      have HK := Lib.hid (And.intro hr (And.intro hts (And.intro hall hal)))
      have HC1 := Lib.hid (fun (w' : World) (h' : PlayA w n (agesA n (l.take k)) (agesA n (l.take k)) w') => h'.step1 h4 h16 hall x y hp0)
      have HC2 := Lib.hid (fun (w' : World) (A1 : List Int) (h' : PlayA w n A1 (agesA n (l.take k)) w') => h'.step2 h4 h16 hall (by omega) x y)
      have HCC := Lib.hid (And.intro hc0 hc1)
      clear hpl hp hc0 hc1 hBw hts hall hal hr
      obtain ⟨ag, hag⟩ : ∃ ag, ag = ownF (n : Int) x y := ⟨_, rfl⟩
      obtain ⟨sh, hsh⟩ : ∃ sh, sh = showF (lastN (2 * n) (agesA n (l.take k) ++ [ag])) := ⟨_, rfl⟩
      rw [← hag] at HC1 HC2 HK
      rw [← hsh] at HC1 HC2
      clear hag hsh
      go_upto_region 12 with fail
      go_cut [10, 11] from 38 to 81 (fun s10 s11 wx => s10 = .int .i64 ag ∧ s11 = .int .i64 sh ∧ PlayA w n (agesA n (l.take k) ++ [ag]) (agesA n (l.take k)) wx)
      case first =>
        go_region_law (first
          | (go_simp; go_at_call 17; refine (HC1.out wr.drew (HK.out.1.heap rfl rfl rfl rfl)).mono ?_; rintro e w5 ⟨rfl, hpa⟩; have H5 := Lib.hid hpa; clear hpa))
        all_goals go_wp2_with fail
        all_goals go_meet
        all_goals exact ⟨rfl, rfl, H5.out⟩
      case rest =>
        obtain ⟨rfl, rfl, hpa⟩ := hcut
        have hBc : Below w.heap.size w wc := by obtain ⟨v1, v2, -, -, -, h⟩ := hpa; exact h
        have q0 : wc.cell? ⟨b, off + k * 2, none⟩ = some (.int .i64 x) := (hBc.cell (p := ⟨b, off + k * 2, none⟩) hbw).trans HCC.out.1
        have q1 : wc.cell? ⟨b, off + k * 2 + 1, none⟩ = some (.int .i64 y) := (hBc.cell (p := ⟨b, off + k * 2 + 1, none⟩) hbw).trans HCC.out.2
        have H6 := Lib.hid hpa
        clear hpa hBc g0 g1
        go_upto_region 13 with fail
        go_cut [12, 13] from 38 to 81 (fun s12 s13 wx => s12 = .int .i64 ag ∧ s13 = .int .i64 sh ∧ PlayA w n (agesA n (l.take k) ++ [ag]) (agesA n (l.take k) ++ [ag]) wx)
        case first =>
          go_region_law (first
            | (go_simp; go_at_call 18; refine (HC2.out wc.drew _ (H6.out.heap rfl rfl rfl rfl)).mono ?_; rintro e w5 ⟨rfl, hpa⟩; have H5 := Lib.hid hpa; clear hpa))
          all_goals go_wp2_with fail
          all_goals go_meet
          all_goals exact ⟨rfl, rfl, H5.out⟩
        case rest =>
          obtain ⟨rfl, rfl, hpa⟩ := hcut
          have H7 := Lib.hid hpa
          clear hpa
          go_wp2_with fail
          exact ⟨⟨k + 1, by omega, by go_num, by rw [HK.out.2.1]; exact H7.out⟩, by simp [intOf]; omega⟩
    · have hkl : k = len := by omega
      subst hkl
      have hBw : Below w.heap.size w wr := by obtain ⟨v1, v2, -, -, -, h⟩ := hr; exact h
      have HBB := Lib.hid hBw
      clear hr hBw
      go_wp2_with fail
      refine (aglives_any _).mono ?_
      rintro e w' h'
      have he := h'.1
      have HL := Lib.hid h'.2
      clear h'
      subst he
      go_wp2_with fail
      go_ret
      exact OkPost.of HBB.out ⟨rfl, HL.out⟩
theorem agplay_any (n : Int) (a : Option Addr) (len cap : Nat) (l : List (Int × Int)) (w : World) (hrd : RdP w.heap.size w a len l) (hm : len ≤ maxLen) :
    Calls Try.prog 5 #[.int .i64 n, .slice a len cap] w (OkPost w) := by
  by_cases hbig : 300 < len
  · have hbig' : (300 : Int) < (len : Int) := by omega
    unfold maxLen at hm
    clear hrd
    go_enter Try.func5, Try.ntmps5
    go_wp2_with fail
    refine (aglives_any _).mono ?_
    rintro e w' h'
    have he := h'.1
    have HL := Lib.hid h'.2
    clear h'
    subst he
    go_wp2_with fail
    go_ret
    exact ⟨rfl, HL.out⟩
  · by_cases hn : 4 ≤ n ∧ n ≤ 16
    · obtain ⟨m, rfl⟩ : ∃ m : Nat, n = m := ⟨n.toNat, by omega⟩
      exact agplay_ok m (by omega) (by omega) a len cap l w hrd (by omega)
    · have hbig' : ¬ (300 : Int) < (len : Int) := by omega
      have hn' : n < 4 ∨ 16 < n := by omega
      clear hrd
      go_enter Try.func5, Try.ntmps5
      go_wp2_with fail
      refine (agnew_bad n _ hn').mono ?_
      rintro e w' ⟨rfl, rfl⟩
      go_wp2_with fail
      refine (ragnew_bad n _ hn').mono ?_
      rintro e w' ⟨rfl, rfl⟩
      go_wp2_with fail
      refine (aglives_any _).mono ?_
      rintro e w' h'
      have he := h'.1
      have HL := Lib.hid h'.2
      clear h'
      subst he
      go_wp2_with fail
      go_ret
      exact ⟨rfl, HL.out⟩
end Go.Proofs.Ytlfpchkoeipcdaa
