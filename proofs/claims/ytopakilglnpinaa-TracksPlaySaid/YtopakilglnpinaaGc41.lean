/-
  sennitlaw13.WordsNorm, walked. sennitlaw14.lives: what the chapter's example comes to, in plain Lean; what stays through it.
-/
import Derived.Test.YtopakilglnpinaaGc38
import Derived.Test.YtopakilglnpinaaGc39
import Derived.Test.YtopakilglnpinaaGc40
import Derived.Test.YtopakilglnpinaaGc37
namespace Go.Proofs.Ytopakilglnpinaa
open Go.RowKit
set_option linter.unusedVariables false
set_option linter.unusedSimpArgs false

theorem below_step {B : Nat} {a b c : World} (h : Below B a b) (k : Below b.heap.size b c) (hB : B ≤ b.heap.size) : Below B a c := h.trans (k.mono hB)
theorem Spd.row {S : Nat → Prop} {w w' : World} (h : Spd S w w') {b : Nat} {cur : Array Value} {t : TypeId} {fr : Nat × Nat} (hb : w.heap[b]? = some (.cells cur t fr)) (hn : t ≠ 90) : w'.heap[b]? = w.heap[b]? := by
  obtain ⟨c1, h1, h2, h3⟩ := h.kind b cur t fr hb
  rw [h1, h3 hn, hb]
theorem smallW_le {l : List Rw} (h : smallW l) : l.length ≤ 100000 ∧ ∀ r ∈ l, r.t.length ≤ 100000 := by
  unfold smallW at h
  exact ⟨by omega, fun r hr => by have := tot_le hr; omega⟩
theorem normW_len (n : Int) (l : List Rw) : (normW n l).length ≤ 16 := by
  unfold normW
  split
  · rename_i h
    rw [fillR_len]
    simp [mayN] at h
    omega
  · simp
theorem fillH_tlen {n : Int} {r : Rw} : (r.plain n).t.length ≤ 16 := by
  unfold Rw.plain
  split
  · rename_i h
    simp [mayN] at h
    rw [fillH_len]
    omega
  · simp [rw0]
theorem normW_tlen {n : Int} {l : List Rw} : ∀ r ∈ normW n l, r.t.length ≤ 100000 := fun r hr => by
  unfold normW at hr
  split at hr
  · rcases List.mem_append.1 hr with hr | hr
    · obtain ⟨y, -, rfl⟩ := List.mem_map.1 hr
      exact Nat.le_trans fillH_tlen (by omega)
    · rw [List.eq_of_mem_replicate hr]; simp [rw0]
  · cases hr

theorem NormRoom.keep {S : Nat → Prop} {w w' : World} {a : Option Addr} {len : Nat} (h : NormRoom S w a len) (hk : ∀ b, S b → b < w.heap.size → w'.heap[b]? = w.heap[b]?) : NormRoom S w' a len := fun k hlt => by
  obtain ⟨b, off, cur, tv, h1, h2, h3, h4, h5⟩ := h k hlt
  exact ⟨b, off, cur, tv, h1, h2, (hk b h2 (lt_of_some h3)).trans h3, (World.cell?_of_block (hk b h2 (lt_of_some h3))).trans h4, h5.keep hk⟩
theorem NormRoom.mono {S S' : Nat → Prop} {w : World} {a : Option Addr} {len : Nat} (h : NormRoom S w a len) (hs : ∀ b, b < w.heap.size → S b → S' b) : NormRoom S' w a len := fun k hlt => by
  obtain ⟨b, off, cur, tv, h1, h2, h3, h4, h5⟩ := h k hlt
  exact ⟨b, off, cur, tv, h1, hs b (lt_of_some h3) h2, h3, h4, h5.mono hs⟩

theorem sameAll_refl (S S' : Nat → Prop) (a a' : Option Addr) (len cap cap' : Nat) (l : List Rw) (w : World) (hrd : RdRs S w a len l) (hm1 : len ≤ cap) (hm2 : cap ≤ maxLen) (hrd' : RdRs S' w a' len l) (hm1' : len ≤ cap') (hm2' : cap' ≤ maxLen) (hbt : ∀ r ∈ l, r.t.length ≤ 100000) :
    Calls Try.prog 13 #[.slice a len cap, .slice a' len cap'] w fun e w' => e = .returned (.bool true) ∧ Below w.heap.size w w' :=
  (sameAll_any S S' a a' len cap len cap' l l w hrd hm1 hm2 hrd' hm1' hm2' hbt).mono fun e w' h => ⟨by rw [h.1]; simp, h.2⟩

end Go.Proofs.Ytopakilglnpinaa
namespace Go.Proofs.Ytopakilglnpinaa
open Go.RowKit
set_option linter.unusedVariables false
set_option linter.unusedSimpArgs false

/-- the example's row -/
def rx : Rw := ⟨true, age7, [hd0, hd0, hd0, hd0]⟩
theorem hd0_nrm : hd0.nrm = hd0 := rfl
theorem rx_ok : rx.ok := ⟨age7_ok, fun h hh => by simp [rx] at hh; rw [hh]; exact hd0_ok⟩
theorem rx_plain : rx.plain (4 : Nat) = rx := by
  unfold Rw.plain rx
  rw [if_pos (by decide)]
  show Rw.mk true (nrm age7) (fillH 4 [hd0, hd0, hd0, hd0]) = _
  rw [age7_nrm]
  simp [fillH, hd0_nrm]
def iNo : Nat → List Rw := fun _ => []
def iAt (k : Nat) : Nat → List Rw := fun i => if i = k then [rx] else []
def lv0 : LaneM := LaneM.new 4 1
def lv1 : LaneM := lv0.put iNo
def lv2 : LaneM := lv1.put (iAt 0)
def lv3 : LaneM := lv2.said rw0
def lv4 : LaneM := lv3.put iNo
def lv5 : LaneM := lv4.put (iAt 3)
def lv6 : LaneM := lv5.put iNo
def lv7 : LaneM := lv6.put iNo
theorem inRow_nil (n s : Nat) : inRow n [] s = rw0 := rfl
theorem inRow_rx : inRow 4 [rx] 0 = rx := rx_plain
theorem rx_is : rx.is = true := rfl
theorem rx_ne : rx ≠ rw0 := fun e => by have := congrArg Rw.is e; cases this
theorem lv_out0 : lv3.past 1 0 0 = rx := inRow_rx
theorem lv_out2 : lv3.past 1 2 0 = rw0 := rfl
theorem lv_held0 : lv6.held 0 = rx := by
  have e : lv6.held 0 = certM [lv3.past 1 0 0, lv3.past 1 1 0, momM 4 1 (iAt 3) 2 0, momM 4 1 (iAt 3) 3 0] := rfl
  have e2 : momM 4 1 (iAt 3) 2 0 = rx := inRow_rx
  have e3 : momM 4 1 (iAt 3) 3 0 = rw0 := rfl
  have e4 : lv3.past 1 1 0 = rw0 := rfl
  rw [e, lv_out0, e2, e3, e4]
  refine certM_one ⟨rx_is, 0, 2, by omega, rfl, rfl⟩ fun r hr => ?_
  obtain ⟨h1, j, i, -, -, h2⟩ := hr
  have := List.mem_of_getElem? h2
  simp only [List.mem_cons, List.not_mem_nil, or_false] at this
  rcases this with h | h | h | h
  · exact h
  · rw [h] at h1; cases h1
  · exact h
  · rw [h] at h1; cases h1
theorem certM_zero : certM [rw0, rw0, rw0, rw0] = rw0 := certM_none fun r hr => by
  obtain ⟨h1, j, i, -, -, h2⟩ := hr
  have := List.mem_of_getElem? h2
  simp only [List.mem_cons, List.not_mem_nil, or_false] at this
  rcases this with h | h | h | h <;> (rw [h] at h1; cases h1)
theorem lv_held2 : lv6.held 2 = rw0 := by
  have e : lv6.held 2 = certM [rw0, rw0, rw0, rw0] := rfl
  rw [e, certM_zero]
theorem lv_late0 : lv7.held 0 = rw0 := by
  have e : lv7.held 0 = certM [rw0, rw0, rw0, rw0] := rfl
  rw [e, certM_zero]

/-- a lane whose blocks lie from B on, but for those from lo to hi; these are as they were in w3 -/
structure LvI (w w1 w3 : World) (p gp : Nat) (G : Nat → Nat) (S : Nat → Prop) (L : LaneM) (wr : World) : Prop where
  l : LaneAt S wr p gp G L
  s : ∀ b, S b → w.heap.size ≤ b ∧ (b < w1.heap.size ∨ w3.heap.size ≤ b)
  k : ∀ b, w1.heap.size ≤ b → b < w3.heap.size → wr.heap[b]? = w3.heap[b]?
  bel : Below w.heap.size w wr
  sz : w.heap.size ≤ w1.heap.size ∧ w1.heap.size ≤ w3.heap.size ∧ w3.heap.size ≤ wr.heap.size
theorem LvI.below {w w1 w3 : World} {p gp : Nat} {G : Nat → Nat} {S : Nat → Prop} {L : LaneM} {wr w' : World} (h : LvI w w1 w3 p gp G S L wr) (hb : Below wr.heap.size wr w') : LvI w w1 w3 p gp G S L w' := by
  obtain ⟨z1, z2, z3⟩ := h.sz
  have := hb.size
  exact ⟨h.l.below hb, h.s, fun b h1 h2 => (hb.block b (by omega)).trans (h.k b h1 h2), h.bel.trans (hb.mono (by omega)), z1, z2, by omega⟩
/-- behind a call that writes the lane's blocks alone -/
theorem LvI.next {w w1 w3 : World} {p gp : Nat} {G G' : Nat → Nat} {S T : Nat → Prop} {L L' : LaneM} {wr w' : World} {m : Nat} (h : LvI w w1 w3 p gp G S L wr) (hm : wr.heap.size ≤ m) (hl : LaneAt (GrowS S wr.heap.size m) w' p gp G' L') (hc : Chg T wr w') (hT : ∀ b, T b → S b) : LvI w w1 w3 p gp G' (GrowS S wr.heap.size m) L' w' := by
  obtain ⟨z1, z2, z3⟩ := h.sz
  have hz := hc.size
  refine ⟨hl, fun b hb => ?_, fun b h1 h2 => (hc.block b (by omega) (fun hb => ?_)).trans (h.k b h1 h2), h.bel.trans (hc.below (by omega) fun k hk => (h.s k (hT k hk)).1), z1, z2, by omega⟩
  · rcases hb with hb | hb
    · exact h.s b hb
    · exact ⟨by omega, .inr (by omega)⟩
  · have := (h.s b (hT b hb)).2
    omega
theorem insR_no (w : World) : InsR (fun _ => False) w (fun _ => none) (fun _ => 0) (fun _ => 0) iNo := ⟨fun _ _ => rdRs_nil _ _, fun _ _ => ⟨Nat.le_refl _, by simp⟩⟩
theorem iNo_ok : ∀ i, ∀ r ∈ iNo i, r.ok := fun i r hr => by cases hr
theorem iAt_ok (k : Nat) : ∀ i, ∀ r ∈ iAt k i, r.ok := fun i r hr => by
  unfold iAt at hr
  split at hr
  · simp at hr; rw [hr]; exact rx_ok
  · cases hr
theorem insR_at {w : World} {sb tb k : Nat} (h : RdRs (fun b => b = sb ∨ b = tb) w (some ⟨sb, 0, none⟩) 1 [rx]) : InsR (fun b => b = sb ∨ b = tb) w (fun i => if i = k then some ⟨sb, 0, none⟩ else none) (fun i => if i = k then 1 else 0) (fun i => if i = k then 1 else 0) (iAt k) := by
  refine ⟨fun i _ => ?_, fun i _ => ?_⟩
  · by_cases e : i = k
    · simp only [e, if_true, iAt]; exact h
    · simp only [e, if_false, iAt]; exact rdRs_nil _ _
  · by_cases e : i = k
    · simp [e, maxLen]
    · simp [e]
end Go.Proofs.Ytopakilglnpinaa
