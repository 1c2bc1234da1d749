/-
  What has been said, made plain: words.said, sennitref13.said. Held things appended onto a slice of the call's own; what is owned keeps. Plain lemmas.
-/
import Derived.Test.YtnckfjmaochnkaaGreatDoorGd03
namespace Go.Proofs.YtnckfjmaochnkaaGreatDoor
open Go.RowKit
set_option linter.unusedVariables false
set_option linter.unusedSimpArgs false

theorem ret_row {P : Program} {fn : Func} {p : Tmp} {ty : TypeId} {n : Nat} (h : fn.results = #[.cell p ty]) (hT : aggOf P ty n = true) (tmps : Array Value) (w : World) (a : Addr)
    (hp : tmps.getD p undef = .pointer (some a)) (hr : hasRow w a n = true) : (results fn tmps).run P w = .ok (.agg (rowOf w a n).toArray) w := by
  have hp' : tmps[p]?.getD undef = .pointer (some a) := by simpa using hp
  simp [results, h, hp', asAddr, run_load_row hT hr]

theorem len_saidZ : saidZ.length = 6 := rfl
@[go_sem ↓] theorem ld_said (ρ : Operand → Value) (d : Option Tmp) (x : Operand) (ty : TypeId) (s : String) (af : Array Edge) (g : Option (Nat × Bool)) (w : World) (h : hasRowV w 6 (ρ x) = true) :
    (execOp ρ { dst := d, op := .load 42 x, type := ty, pos := s, after := af, guard := g }).run Tryz.prog w = .ok (.value (.agg (rowV w 6 (ρ x)).toArray)) w := exec_load (by kernel_rfl) ρ d x ty s af g w h
@[go_sem ↓] theorem st_said (ρ : Operand → Value) (d : Option Tmp) (x y : Operand) (ty : TypeId) (s : String) (af : Array Edge) (g : Option (Nat × Bool)) (w : World) (h1 : okAgg 6 (ρ y) = true) (h2 : canPutV w 6 (ρ x) = true) :
    (execOp ρ { dst := d, op := .store 42 x y, type := ty, pos := s, after := af, guard := g }).run Tryz.prog w = .ok .skip (putV w (ρ x) (ρ y)) := exec_store (by kernel_rfl) ρ d x y ty s af g w h1 h2
@[go_sem ↓] theorem al_said (ρ : Operand → Value) (d : Option Tmp) (ty : TypeId) (s : String) (af : Array Edge) (g : Option (Nat × Bool)) (w : World) :
    (execOp ρ { dst := d, op := .alloc 42, type := ty, pos := s, after := af, guard := g }).run Tryz.prog w = .ok (.value (.pointer (some ⟨w.heap.size, 0, none⟩))) (w.alloc (.cells saidZ.toArray 42)) := exec_alloc (by unfold zeroIs; kernel_rfl) ρ d ty s af g w
theorem bt_said : buildT Tryz.prog 42 saidZ [(0, 1), (1, 1), (2, 4)] := by unfold buildT; exact ⟨by kernel_rfl, by kernel_rfl⟩
@[go_sem ↓] theorem bd_said0 (ρ : Operand → Value) (d : Option Tmp) (ty : TypeId) (s : String) (af : Array Edge) (g : Option (Nat × Bool)) (w : World) : (execOp ρ { dst := d, op := .build 42 #[], type := ty, pos := s, after := af, guard := g }).run Tryz.prog w = .ok (.value (.agg saidZ.toArray)) w := exec_build0 bt_said ρ d ty s af g w

@[go_sem] theorem saidZ_cell1 : saidZ.all cell1 = true := by kernel_rfl
@[go_sem] theorem len_saidZ' : saidZ.length = 6 := (rfl)

/-! ### the last block, by whatever name the walk gives it -/
@[go_sem] theorem canPut_last (w : World) (l : List Value) (t : TypeId) (g i n : Nat) (hg : w.heap.size = g) : canPut (w.alloc (.cells l.toArray t)) ⟨g, i, none⟩ n = decide (i + n ≤ l.length) := by subst hg; exact canPut_new w l t i n
@[go_sem] theorem hasRow_last (w : World) (l : List Value) (t : TypeId) (g i n : Nat) (hg : w.heap.size = g) (h : i + n ≤ l.length) : hasRow (w.alloc (.cells l.toArray t)) ⟨g, i, none⟩ n = true := by subst hg; exact hasRow_new w l t i n h
@[go_sem] theorem rowOf_last (w : World) (l : List Value) (t : TypeId) (g i n : Nat) (hg : w.heap.size = g) (h : i + n ≤ l.length) : rowOf (w.alloc (.cells l.toArray t)) ⟨g, i, none⟩ n = (l.drop i).take n := by subst hg; exact rowOf_new w l t i n h
@[go_sem] theorem putRow_last (w : World) (z l : List Value) (t : TypeId) (g : Nat) (hg : w.heap.size = g) (h : z.length = l.length) : putRow (w.alloc (.cells z.toArray t)) ⟨g, 0, none⟩ l = w.alloc (.cells l.toArray t) := by subst hg; exact putRow_new w z l t h

/-- the frame of both -/
theorem said_frame (w : World) (l z : List Value) (t t' : TypeId) : Below w.heap.size w ((w.alloc (.cells l.toArray t)).alloc (.cells z.toArray t')) := ((Below.refl _ _).alloc (Nat.le_refl _) _).alloc (by simp) _

set_option maxRecDepth 100000 in
theorem said_any (s : Sd) (w : World) : Calls Tryz.prog 170 #[.agg s.vals.toArray] w fun e w' => e = .returned (.agg s.norm.vals.toArray) ∧ Below w.heap.size w w' := by
  obtain ⟨R, hR⟩ : ∃ R, R = s.norm.vals := ⟨_, rfl⟩
  rw [← hR]
  have HR := Lib.hid hR
  clear hR
  obtain ⟨is, tick, kind, st, seq, val⟩ := s
  simp only [Sd.vals]
  cases is
  · skip
    have HN : Hid (R = saidZ) := Lib.hid (by
      have hg : Sd.good ⟨false, tick, kind, st, seq, val⟩ = false := by
        rw [Bool.eq_false_iff]; intro h; simp [Sd.good] at h; try omega
      rw [HR.out, Sd.norm, if_neg (by rw [hg]; simp)]; rfl)
    go_enter Tryz.func170, Tryz.ntmps170
    go_wp2_with fail
    try simp only [Exit.inBlock, Exit.then]
    first | refine bodyPost_ret (ret_row (n := 6) rfl (by kernel_rfl) _ _ _ rfl ?_) rfl ?_ | refine bodyPost_end (ret_row (n := 6) rfl (by kernel_rfl) _ _ _ rfl ?_) rfl ?_
    · simp [go_sem]
    · refine ⟨?_, said_frame _ _ _ _ _⟩
      rw [HN.out]
      simp [go_sem, Sd.vals, saidZ]
  · by_cases h1 : tick < 0
    · skip
      have HN : Hid (R = saidZ) := Lib.hid (by
        have hg : Sd.good ⟨true, tick, kind, st, seq, val⟩ = false := by
          rw [Bool.eq_false_iff]; intro h; simp [Sd.good] at h; try omega
        rw [HR.out, Sd.norm, if_neg (by rw [hg]; simp)]; rfl)
      go_enter Tryz.func170, Tryz.ntmps170
      go_wp2_with fail
      try simp only [Exit.inBlock, Exit.then]
      first | refine bodyPost_ret (ret_row (n := 6) rfl (by kernel_rfl) _ _ _ rfl ?_) rfl ?_ | refine bodyPost_end (ret_row (n := 6) rfl (by kernel_rfl) _ _ _ rfl ?_) rfl ?_
      · simp [go_sem]
      · refine ⟨?_, said_frame _ _ _ _ _⟩
        rw [HN.out]
        simp [go_sem, Sd.vals, saidZ]
    · by_cases h2 : 1099511627776 < tick
      · skip
        have HN : Hid (R = saidZ) := Lib.hid (by
          have hg : Sd.good ⟨true, tick, kind, st, seq, val⟩ = false := by
            rw [Bool.eq_false_iff]; intro h; simp [Sd.good] at h; try omega
          rw [HR.out, Sd.norm, if_neg (by rw [hg]; simp)]; rfl)
        go_enter Tryz.func170, Tryz.ntmps170
        go_wp2_with fail
        try simp only [Exit.inBlock, Exit.then]
        first | refine bodyPost_ret (ret_row (n := 6) rfl (by kernel_rfl) _ _ _ rfl ?_) rfl ?_ | refine bodyPost_end (ret_row (n := 6) rfl (by kernel_rfl) _ _ _ rfl ?_) rfl ?_
        · simp [go_sem]
        · refine ⟨?_, said_frame _ _ _ _ _⟩
          rw [HN.out]
          simp [go_sem, Sd.vals, saidZ]
      · by_cases h3 : kind = 1
        · subst h3
          have HN : Hid (R = Sd.vals ⟨true, tick, 1, st, seq, val⟩) := Lib.hid (by
            have hg : Sd.good ⟨true, tick, 1, st, seq, val⟩ = true := by
              simp [Sd.good]; omega
            rw [HR.out, Sd.norm, if_pos hg])
          go_enter Tryz.func170, Tryz.ntmps170
          go_wp2_with fail
          try simp only [Exit.inBlock, Exit.then]
          first | refine bodyPost_ret (ret_row (n := 6) rfl (by kernel_rfl) _ _ _ rfl ?_) rfl ?_ | refine bodyPost_end (ret_row (n := 6) rfl (by kernel_rfl) _ _ _ rfl ?_) rfl ?_
          · simp [go_sem]
          · refine ⟨?_, said_frame _ _ _ _ _⟩
            rw [HN.out]
            simp [go_sem, Sd.vals, saidZ]
        · by_cases h4 : kind = 2
          · subst h4
            have HN : Hid (R = Sd.vals ⟨true, tick, 2, st, seq, val⟩) := Lib.hid (by
              have hg : Sd.good ⟨true, tick, 2, st, seq, val⟩ = true := by
                simp [Sd.good]; omega
              rw [HR.out, Sd.norm, if_pos hg])
            go_enter Tryz.func170, Tryz.ntmps170
            go_wp2_with fail
            try simp only [Exit.inBlock, Exit.then]
            first | refine bodyPost_ret (ret_row (n := 6) rfl (by kernel_rfl) _ _ _ rfl ?_) rfl ?_ | refine bodyPost_end (ret_row (n := 6) rfl (by kernel_rfl) _ _ _ rfl ?_) rfl ?_
            · simp [go_sem]
            · refine ⟨?_, said_frame _ _ _ _ _⟩
              rw [HN.out]
              simp [go_sem, Sd.vals, saidZ]
          · have h5 : (kind != 1) = true := by simpa using h3
            have h6 : (kind != 2) = true := by simpa using h4
            have h7 : (kind == 1) = false := by simpa using h3
            have h8 : (kind == 2) = false := by simpa using h4
            have HN : Hid (R = saidZ) := Lib.hid (by
              have hg : Sd.good ⟨true, tick, kind, st, seq, val⟩ = false := by
                rw [Bool.eq_false_iff]; intro h; simp [Sd.good] at h; try omega
              rw [HR.out, Sd.norm, if_neg (by rw [hg]; simp)]; rfl)
            go_enter Tryz.func170, Tryz.ntmps170
            go_wp2_with fail
            try simp only [Exit.inBlock, Exit.then]
            first | refine bodyPost_ret (ret_row (n := 6) rfl (by kernel_rfl) _ _ _ rfl ?_) rfl ?_ | refine bodyPost_end (ret_row (n := 6) rfl (by kernel_rfl) _ _ _ rfl ?_) rfl ?_
            · simp [go_sem]
            · refine ⟨?_, said_frame _ _ _ _ _⟩
              rw [HN.out]
              simp [go_sem, Sd.vals, saidZ]
end Go.Proofs.YtnckfjmaochnkaaGreatDoor
namespace Go.Proofs.YtnckfjmaochnkaaGreatDoor
open Go.RowKit
set_option linter.unusedVariables false
set_option linter.unusedSimpArgs false

theorem app_held : AppOk Tryz.prog 101 152 56 := appOk_of Tryz.underlying101 (by kernel_rfl)
def OwnHs (w0 : World) (e : TypeId) (v : Value) (l : List Hd) (wr : World) : Prop := wr.ownsRow w0.heap.size e 56 v l.length (l.flatMap Hd.vals) ∧ (∀ x ∈ l, x.ok) ∧ Below w0.heap.size w0 wr
theorem OwnHs.nil (w0 : World) (e : TypeId) (wr : World) (h : Below w0.heap.size w0 wr) : OwnHs w0 e (.slice none 0 0) [] wr := ⟨World.ownsRow_nil _ _ _ _, by simp, h⟩
/-- a slice is handed back: it reads as l, in new memory -/
def NewHs (w : World) (l : List Hd) (e : Ending) (w' : World) : Prop :=
  ∃ a cap, e = .returned (.slice a l.length cap) ∧ RdHs (w.heap.size ≤ ·) w' a l.length l ∧ l.length ≤ cap ∧ cap ≤ maxLen ∧ Below w.heap.size w w'
theorem OwnHs.new {w0 : World} {e : TypeId} {v : Value} {l : List Hd} {wr : World} (h : OwnHs w0 e v l wr) : NewHs w0 l (.returned v) wr := by
  obtain ⟨a, cap, rfl, h1, h2, h3⟩ := RdHs.of_own h.1 h.2.1
  exact ⟨a, cap, rfl, h1, h2, h3, h.2.2⟩
theorem OwnHs.push {w0 : World} {e : TypeId} {v : Value} {l : List Hd} {wr : World} (h : OwnHs w0 e v l wr) (x : Hd) (hx : x.ok) {w1 : World} {v' : Value} {n : Nat} (hn : l.length = n)
    (o1 : w1.ownsRow w0.heap.size e 56 v' (n + 1) (l.flatMap Hd.vals ++ x.vals)) {wm : World} (hm : Below w0.heap.size w0 wm) (hg : wm.grownBy w1 v.ownBlock) : OwnHs w0 e v' (l ++ [x]) w1 := by
  subst hn
  refine ⟨by rw [List.length_append, List.flatMap_append]; simpa using o1, fun y hy => ?_, hm.grown hg hm.size fun k hk => (h.1.lt k hk).1⟩
  rcases List.mem_append.1 hy with hy | hy
  · exact h.2.1 y hy
  · simp at hy; rw [hy]; exact hx
theorem own_block {w w' : World} {base : Nat} {e : TypeId} {size : Nat} {v : Value} {n : Nat} {xs : List Value} (h : w.ownsRow base e size v n xs) (hb : ∀ k, v.ownBlock = some k → w'.heap[k]? = w.heap[k]?) : w'.ownsRow base e size v n xs := by
  refine ⟨h.1, ?_⟩
  rcases h.2 with h2 | ⟨g, cap, cur, rfl, hg, hh, r⟩
  · exact .inl h2
  · exact .inr ⟨g, cap, cur, rfl, hg, (hb g rfl).trans hh, r⟩
theorem own_not {w : World} {base : Nat} {e t : TypeId} {size n g : Nat} {v : Value} {xs : List Value} {cs : Array Value} (h : w.ownsRow base e size v n xs) (hg : Blk w g t cs) (hne : e ≠ t) : v.ownBlock ≠ some g := by
  rcases h.2 with ⟨rfl, _⟩ | ⟨g', cap, cur, rfl, _, hh, _⟩
  · simp [Value.ownBlock]
  · intro he
    have : g' = g := by simpa [Value.ownBlock] using he
    subst this
    exact Blk.ne_ (t := e) hh hg hne rfl
/-- a whole row stored into a block of its own size -/
theorem Blk.put_all {w : World} {g : Nat} {t : TypeId} {z l : List Value} (h : Blk w g t z.toArray) (hl : z.length = l.length) : Blk (putRow w ⟨g, 0, none⟩ l) g t l.toArray := by
  have := h.put 0 l
  simpa [← hl] using this
/-- a known block, read whole -/
theorem Blk.whole {w : World} {g : Nat} {t : TypeId} {l : List Value} {n : Nat} (h : Blk w g t l.toArray) (hl : l.length = n) : hasRow w ⟨g, 0, none⟩ n = true ∧ rowOf w ⟨g, 0, none⟩ n = l ∧ canPut w ⟨g, 0, none⟩ n = true := by
  subst hl
  obtain ⟨-, -, h3, h4, h5⟩ := h.rules
  refine ⟨by rw [h3]; simp, ?_, by rw [h5]; simp⟩
  rw [h4 _ _ (by omega)]; simp
/-- a vector's entry of an age -/
def hdAge (n : Int) : Hd := ⟨true, .int .i64 n :: cellR⟩
theorem hdAge_ok {n : Int} (h0 : -9223372036854775808 ≤ n) (h1 : n ≤ 9223372036854775807) : (hdAge n).ok := cellR_ok n (by simp [Lit.wf, IntKind.min, IntKind.max, IntKind.signed, IntKind.bits]; omega)
end Go.Proofs.YtnckfjmaochnkaaGreatDoor
