/-
  The document's clique, walked.
-/
import Derived.Test.YtphbmnjkhgfnoaaClq2
import Derived.Deep.RegionLaw
namespace Go.Proofs.Ytphbmnjkhgfnoaa
open Go.RowKit
set_option linter.unusedVariables false
set_option linter.unusedSimpArgs false

theorem reven_pre (n : Int) (l : List Hd) (common : Int) : (4 ≤ n ∧ n ≤ 16 ∧ 0 ≤ common ∧ common ≤ 1099511627776 ∧ n - 1 ≤ evenN (l.take n.toNat) common) ↔ evenF n l common = true := by
  simp [evenF, and_assoc]

set_option maxRecDepth 100000 in
set_option maxHeartbeats 1000000 in
theorem reven_any (S : Nat → Prop) (n common : Int) (a : Option Addr) (len cap : Nat) (l : List Hd) (w : World) (hn0 : -9223372036854775808 ≤ n) (hn1 : n ≤ 9223372036854775807) (hrd : RdHs S w a len l) (hlen : len ≤ 100000000) :
    Calls Try.prog 31 #[.int .i64 n, .slice a len cap, .int .i64 common] w fun e w' => e = .returned (.bool (evenF n l common)) ∧ w = w' := by
  have HR := Lib.hid hrd
  clear hrd
  obtain ⟨L, hL⟩ : ∃ L : Nat, L = min n.toNat len := ⟨_, rfl⟩
  have hT : l.take n.toNat = l.take L := by
    rw [hL]
    rcases Nat.le_total n.toNat len with h | h
    · rw [Nat.min_eq_left h]
    · rw [Nat.min_eq_right h, List.take_of_length_le (by rw [HR.out.1]; exact h), List.take_of_length_le (by rw [HR.out.1]; exact Nat.le_refl _)]
  have hF := reven_pre n l common
  rw [hT] at hF
  have HF := Lib.hid hF
  clear hT hF
  have hb1 := evenN_le (l.take L) common
  have hb2 : (l.take L).length ≤ L := List.length_take_le _ _
  go_enter Try.func31, Try.ntmps31
  go_wp2
  go_loop [7, 8] (fun c i => ∃ k : Nat, k ≤ L ∧ i = .int .i64 k ∧ c = .int .i64 (evenN (l.take k) common)) (fun _ i => L - (intOf i).toNat)
  case atStart => exact ⟨0, by omega, rfl, rfl⟩
  case round =>
    obtain ⟨k, hk, rfl, rfl⟩ := hrel
    have hle := evenN_le (l.take k) common
    have hlt3 : (l.take k).length ≤ k := List.length_take_le _ _
    by_cases hlt2 : k < L
    · have hk1 : (k : Int) < n := by omega
      have hk2 : k < len := by omega
      clear hL
      obtain ⟨b, off, is, m, r, rfl, -, hbw, hlk, hok, hlr, hlc1, h1, h2, h3, h4, h5, h6, h7, h8⟩ := HR.out.at_ k hk2
      have hs := evenN_succ l common k _ hlk
      simp only [ageL] at hs
      have H := Lib.hid hs
      clear h1 h2 h3 h4 hs hlk hbw
      cases is with
      | false =>
        go_wp2
        go_round
        case rel => exact ⟨k + 1, by omega, by go_num, by rw [H.out]; simp⟩
        case measure => simp [intOf]; omega
      | true =>
        by_cases hnc : m = common
        · have e1 : (m == common) = true := by simp [hnc]
          have HN := Lib.hid hnc
          clear hnc
          go_wp2
          go_round
          case rel => exact ⟨k + 1, by omega, by go_num, by rw [H.out, HN.out]; simp⟩
          case measure => simp [intOf]; omega
        · have e1 : (m == common) = false := by simp [hnc]
          have HN := Lib.hid hnc
          clear hnc
          go_wp2
          go_round
          case rel => exact ⟨k + 1, by omega, by go_num, by rw [H.out]; simp [HN.out]⟩
          case measure => simp [intOf]; omega
    · have hkL : k = L := by omega
      subst hkL
      by_cases hA : evenF n l common = true
      · obtain ⟨a1, a2, a3, a4, a5⟩ := HF.out.2 hA
        have HA := Lib.hid hA
        clear hA
        by_cases hkn : (k : Int) < n
        · have hkl : ¬ (k < len) := by omega
          clear hL
          go_wp2
          go_ret
          exact ⟨by rw [HA.out]; first | rfl | (simp; omega), rfl⟩
        · clear hL
          go_wp2
          go_ret
          exact ⟨by rw [HA.out]; first | rfl | (simp; omega), rfl⟩
      · have hA2 : ¬ (4 ≤ n ∧ n ≤ 16 ∧ 0 ≤ common ∧ common ≤ 1099511627776 ∧ n - 1 ≤ evenN (l.take k) common) := fun h => hA (HF.out.1 h)
        have HA : Hid (evenF n l common = false) := Lib.hid (by simpa using hA)
        clear hA
        have hA3 : n < 4 ∨ 4 ≤ n ∧ 16 < n ∨ 4 ≤ n ∧ n ≤ 16 ∧ common < 0 ∨ 4 ≤ n ∧ n ≤ 16 ∧ 0 ≤ common ∧ 1099511627776 < common ∨ 4 ≤ n ∧ n ≤ 16 ∧ 0 ≤ common ∧ common ≤ 1099511627776 ∧ evenN (l.take k) common < n - 1 := by omega
        clear hA2
        have hkk : (k : Int) < n ∧ ¬ (k < len) ∨ ¬ (k : Int) < n := by omega
        clear hL
        rcases hA3 with h | ⟨h, h'⟩ | ⟨h, h', h''⟩ | ⟨h, h', h'', h3⟩ | ⟨h, h', h'', h3, h4⟩ <;> rcases hkk with ⟨hq, hq2⟩ | hq
        all_goals
          go_wp2
          go_ret
          exact ⟨by rw [HA.out]; first | rfl | (simp; omega), rfl⟩

theorem app_bool : AppOk Try.prog 85 4 1 := appOk_of Try.underlying85 (by kernel_rfl)

/-- the last m ticks were even -/
def allEven (m : Nat) (bs : List Bool) : Bool := decide (m ≤ bs.length) && (bs.reverse.take m).all id
theorem allEven_no {m : Nat} {bs : List Bool} {d : Nat} (hd : d < m) (h : bs.length ≤ d ∨ bs[bs.length - 1 - d]? = some false) : allEven m bs = false := by
  unfold allEven
  rcases h with h | h
  · rw [show decide (m ≤ bs.length) = false from by simp; omega]; rfl
  · by_cases hm : m ≤ bs.length
    · have h1 : (bs.reverse.take m)[d]? = some false := by
        rw [List.getElem?_take, if_pos hd, List.getElem?_reverse (by omega)]; exact h
      have h2 : false ∈ bs.reverse.take m := List.mem_of_getElem? h1
      have : (bs.reverse.take m).all id = false := by
        rw [Bool.eq_false_iff]
        intro ha
        have := List.all_eq_true.1 ha _ h2
        simp at this
      rw [this, Bool.and_false]
    · rw [show decide (m ≤ bs.length) = false from by simp; omega]; rfl
theorem allEven_yes {m : Nat} {bs : List Bool} (hm : m ≤ bs.length) (h : ∀ d, d < m → bs[bs.length - 1 - d]? = some true) : allEven m bs = true := by
  unfold allEven
  rw [decide_eq_true hm, Bool.true_and, List.all_eq_true]
  intro x hx
  obtain ⟨d, hd⟩ := List.mem_iff_getElem?.1 hx
  rw [List.getElem?_take] at hd
  split at hd
  · rename_i hdm
    rw [List.getElem?_reverse (by omega), h d hdm] at hd
    simpa using hd.symm
  · cases hd

theorem own_block {w w' : World} {base : Nat} {e : TypeId} {size : Nat} {v : Value} {n : Nat} {xs : List Value} (h : w.ownsRow base e size v n xs) (hb : ∀ k, v.ownBlock = some k → w'.heap[k]? = w.heap[k]?) : w'.ownsRow base e size v n xs := by
  refine ⟨h.1, ?_⟩
  rcases h.2 with h2 | ⟨g, cap, cur, rfl, hg, hh, r⟩
  · exact .inl h2
  · exact .inr ⟨g, cap, cur, rfl, hg, (hb g rfl).trans hh, r⟩
theorem own_not {w : World} {base : Nat} {e t : TypeId} {size n g : Nat} {v : Value} {xs : List Value} {cs : Array Value} (h : w.ownsRow base e size v n xs) (hg : Blk w g t cs) (hne : e ≠ t) : v.ownBlock ≠ some g := by
  rcases h.2 with ⟨rfl, _⟩ | ⟨g', cap, cur, rfl, _, hh, _⟩
  · simp [Value.ownBlock]
  · intro he
    have : g' = g := by simpa [Value.ownBlock] using he
    subst this
    exact Blk.ne_ (t := e) hh hg hne rfl

def RcRel (W : World) (g : Nat) (n : Int) (v : Value) (bs : List Bool) (w : World) : Prop :=
  Blk w g 132 #[.int .i64 n, v] ∧ w.ownsRow W.heap.size 4 1 v bs.length (bs.map Value.bool)

def RcPost (W : World) (g : Nat) (n : Int) (v : Value) (bs : List Bool) (w : World) (e : Ending) (w' : World) : Prop :=
  e = .returned (.bool (allEven (2 * n.toNat) bs)) ∧ (∃ v', RcRel W g n v' bs w') ∧ Chg (fun b => b = g ∨ some b = v.ownBlock) w w'

end Go.Proofs.Ytphbmnjkhgfnoaa
