/-
  (sennitlaw14.Fault).Great; sennitlaw14.plain. A ring in which nobody is faulty, and all are on: what each word has of each source. No program in sight. sennitlaw13.lives: the chapter's examples hold. sennitlaw14.lives: what the chapter's example comes to, in plain Lean; what stays through it.
-/
import Derived.Test.YtbdklfcgcmdgaaaGb25
import Derived.Test.YtbdklfcgcmdgaaaGb08
import Derived.Test.YtbdklfcgcmdgaaaGb17
import Derived.Test.YtbdklfcgcmdgaaaGb04
import Derived.Test.YtbdklfcgcmdgaaaGb20
import Derived.Test.YtbdklfcgcmdgaaaGb23
namespace Go.Proofs.Ytbdklfcgcmdgaaa
open Go.RowKit
set_option linter.unusedVariables false
set_option linter.unusedSimpArgs false

theorem RdAs.at_ {S : Nat → Prop} {w : World} {a : Option Addr} {len : Nat} {l : List ActM} (h : RdAs S w a len l) (k : Nat) (hk : k < len) :
    ∃ b off x m cap y, a = some ⟨b, off, none⟩ ∧ S b ∧ b < w.heap.size ∧ l[k]? = some y ∧ w.cell? ⟨b, off + k * 59 + 2 + 56, none⟩ = some (.slice x m cap) ∧ m ≤ cap ∧ cap ≤ maxLen ∧ y.row.t.length = m := by
  have hkk : l[k]? = some (l[k]'(by rw [h.1]; exact hk)) := List.getElem?_eq_getElem _
  obtain ⟨b, off, tv, e, hS, hb, r1, r2, x, m, cap, rfl, h5, h6, h7⟩ := h.2.2 k _ hkk
  have hok := h.2.1 _ (List.mem_of_getElem? hkk)
  refine ⟨b, off, x, m, cap, _, e, hS, hb, hkk, ?_, h6, h7, h5.1⟩
  have hc := row_cell r1 r2 58 (by omega)
  rw [show off + k * 59 + 2 + 56 = off + k * 59 + 58 from by omega, hc]
  have hl := hok.2.2.1
  have hl55 := okL_len hl
  have hl2 : (l[k]'(by rw [h.1]; exact hk)).row.c.length = 55 := by rw [hl55]; rfl
  show ((l[k]'(by rw [h.1]; exact hk)).row.vals (.slice x m cap))[56]? = _
  show ((l[k]'(by rw [h.1]; exact hk)).row.c ++ [.slice x m cap])[55]? = _
  rw [List.getElem?_append_right (by omega), hl2]; rfl
def FGreat (w : World) (e : Ending) (w' : World) : Prop := (∃ b, e = .returned (.bool b)) ∧ Below w.heap.size w w'
set_option maxRecDepth 100000 in
set_option maxHeartbeats 4000000 in
theorem fgreat_any (S : Nat → Prop) (F : FltM) (a : Option Addr) (len cap : Nat) (w : World) (hrd : RdAs S w a len F.acts) (hm1 : len ≤ cap) (hm2 : cap ≤ maxLen) (h47 : len ≤ 140737488355328) (hsz : ∀ x ∈ F.acts, x.row.t.length ≤ 140737488355328) :
    Calls Try.prog 28 #[.agg (F.vals (.slice a len cap)).toArray] w (FGreat w) := by
  unfold maxLen at hm2
  have HR := Lib.hid (And.intro hrd hsz)
  clear hrd hsz
  show Calls _ _ #[.agg #[.bool F.link, .int .u8 F.at_, .int .u8 F.which, .slice a len cap]] w _
  go_enter Try.func28, Try.ntmps28
  go_upto_region 1 with fail
  have hb : Blk (w.alloc (.cells #[.bool F.link, .int .u8 F.at_, .int .u8 F.which, .slice a len cap] 88)) w.heap.size 88 #[.bool F.link, .int .u8 F.at_, .int .u8 F.which, .slice a len cap] := Blk.new _ _ _
  have hB : Below w.heap.size w (w.alloc (.cells #[.bool F.link, .int .u8 F.at_, .int .u8 F.which, .slice a len cap] 88)) := (Below.refl _ _).alloc (Nat.le_refl _) _
  generalize w.alloc (.cells #[.bool F.link, .int .u8 F.at_, .int .u8 F.which, .slice a len cap] 88) = w0 at hb hB ⊢
  have c0 : w0.cell? ⟨w.heap.size, 3, none⟩ = some (.slice a len cap) := hb.cell 3
  have H0 := Lib.hid hB
  clear hb hB
  go_wp2_with fail
  go_loopw [3, 4] (fun n i wr => ∃ k T : Nat, k ≤ len ∧ i = .int .i64 k ∧ n = .int .i64 T ∧ T ≤ 281474976710656 ∧ wr = w0) (fun _ i _ => len - (intOf i).toNat)
  case atStart => exact ⟨0, len, by omega, rfl, rfl, by omega, rfl⟩
  case round =>
    obtain ⟨k, T, hk, rfl, rfl, hT, rfl⟩ := hrel
    by_cases hlt : k < len
    · by_cases h9 : T < 900
      · obtain ⟨b, off, x, m, cp, y, rfl, hS, hbw, hv, hc4, h6, h7, h8⟩ := HR.out.1.at_ k hlt
        have hmz := HR.out.2 y (List.mem_of_getElem? hv)
        rw [h8] at hmz
        have d4 := (H0.out.cell (p := ⟨b, off + k * 59 + 2 + 56, none⟩) hbw).trans hc4
        unfold maxLen at h7
        have h9' : (T : Int) < 900 := by omega
        have hlt1 : (k : Int) < len := by omega
        clear hc4 hv h8
        go_wp2_with fail
        exact ⟨⟨k + 1, T + m, by omega, by go_num, by go_num, by omega, trivial⟩, by simp [intOf]; omega⟩
      · have h9' : ¬ (T : Int) < 900 := by omega
        go_wp2_with fail
        go_ret
        exact ⟨⟨_, rfl⟩, H0.out⟩
    · have hlt1 : ¬ (k : Int) < len := by omega
      go_wp2_with fail
      go_ret
      exact ⟨⟨_, rfl⟩, H0.out⟩
set_option maxRecDepth 100000 in
set_option maxHeartbeats 4000000 in
theorem plain14_any (S : Nat → Prop) (N : Int) (a : Option Addr) (len cap : Nat) (l : List Rw) (w : World) (hrd : RdRs S w a len l) (hm1 : len ≤ cap) (hm2 : cap ≤ maxLen) (hbig : len ≤ 100000) :
    Calls Try.prog 31 #[.int .i64 N, .slice a len cap] w (RowsPost (l.map (Rw.plain N)) w) := by
  unfold maxLen at hm2
  have hll : (l.map (Rw.plain N)).length = len := by simp [hrd.1]
  have HR := Lib.hid hrd
  clear hrd
  go_enter Try.func31, Try.ntmps31
  go_wp2_with fail
  go_loopw [5, 6] (fun v i wr => ∃ k : Nat, k ≤ len ∧ i = .int .i64 k ∧ OS w 54 (l.map (Rw.plain N)) k v wr) (fun _ i _ => len - (intOf i).toNat)
  case atStart => exact ⟨0, by omega, rfl, OS.start _ _ _⟩
  case round =>
    obtain ⟨k, hk, rfl, hr⟩ := hrel
    by_cases hlt : k < len
    · obtain ⟨⟨ps, p1, p2, p3⟩, hB⟩ := hr
      obtain ⟨b, off, x, m, cp, r, rfl, hS, hbw, hv, hok, hrl, hrc1, hr1, hr2, hr3, hr4, hr5, hr6, hr7⟩ := HR.out.at_ k hlt
      have d := row_below hB (p := ⟨b, off + k * 57, none⟩) hbw 57
      have d1 := d.1.trans hr1
      have d2 : rowOf wr ⟨b, off + k * 57, none⟩ 57 = r.vals (.slice x m cp) := d.2.trans hr2
      have hrow : RowR S wr r (.slice x m cp) := ⟨x, m, cp, rfl, hr5.below hB (fun _ _ h => h), hr6, hr7⟩
      have HC := Lib.hid (plain_any S N r hok (.slice x m cp) wr hrow)
      have HO := Lib.hid p3.1
      have hv' : (l.map (Rw.plain N))[k]? = some (r.plain N) := by rw [List.getElem?_map, hv]; rfl
      have hok' : (r.plain N).ok := Rw.plain_ok hok
      have HK := Lib.hid (And.intro hB (And.intro p1 (And.intro p2 (And.intro p3 (And.intro hok' hv')))))
      have hwr := hB.size
      clear d hr1 hr2 hr3 hr4 hr5 hr6 hr7 hrow hB p1 p2 p3 hv hv' hrl hrc1
      go_wp2_with fail
      refine HC.out.mono ?_
      rintro e w5 ⟨tv, rfl, hrowx, hb5⟩
      have hrow5 := hrowx.1
      have hyl := Rw.len hok' tv
      have hyc := hrow5.cell1 hok'
      have hown : w5.ownsRow w.heap.size 54 57 u5 k (flatP ps) := by
        rw [← HK.out.2.1]
        exact own_block HO.out (fun q hq => hb5.block q (HO.out.lt q hq).2)
      have HO5 := Lib.hid hown
      have hs5 := hb5.size
      have H5 := Lib.hid (And.intro hb5 hrow5)
      clear hown hb5 hrow5 HO hrowx
      obtain ⟨yv, hyv⟩ : ∃ yv, yv = (r.plain N).vals tv := ⟨_, rfl⟩
      rw [← hyv] at hyl hyc ⊢
      have HYV := Lib.hid hyv
      clear hyv
      go_wp2_with (at_builtin; refine wpList_lies app_row (by rfl) (.tmp 13) (.tmp 20) (by rfl) w.heap.size _ _ _ (by rfl) (HO5.out.alloc _) ⟨w5.heap.size, 0, none⟩ 1 1 yv (by rfl) (by simp [hyl]) (hasRow_new w5 _ _ 0 57 (by simp [hyl])) ((rowOf_new w5 _ _ 0 57 (by simp [hyl])).trans (List.take_of_length_le (by simp [hyl]))) hyc (by omega) (by omega) (by simp; omega) ?_; intro gg cp w7 hown1 hgrow hlie; rw [HYV.out] at hown1; have H8 := Lib.hid (And.intro hown1 (And.intro hgrow hlie)); clear hown1 hgrow hlie)
      exact ⟨⟨k + 1, by omega, by go_num, OS.step HK.out.1 HK.out.2.1 HK.out.2.2.1 HK.out.2.2.2.1 (H5.out.1.alloc H5.out.1.size _) HK.out.2.2.2.2.1 HK.out.2.2.2.2.2 (H5.out.2.below ((Below.refl _ _).alloc (Nat.le_refl _) _)) H8.out.1 H8.out.2.1 H8.out.2.2⟩, by simp [intOf]; omega⟩
    · have hkl : k = len := by omega
      subst hkl
      have H := Lib.hid (hr.post hll.symm)
      clear hr
      go_wp2_with fail
      go_ret
      exact H.out
end Go.Proofs.Ytbdklfcgcmdgaaa
namespace Go.Proofs.Ytbdklfcgcmdgaaa
open Go.RowKit
set_option linter.unusedVariables false
set_option linter.unusedSimpArgs false

section
variable (N : Nat) (F : FltM) (on : Nat → Nat → Bool) (own : Nat → Nat → Rw)
theorem insT_early {t x way p : Nat} (hw : way < 2) (hp : p < 2) (ht : t < p + 1) : insT N F on own t x (2 * way + p) = [] := by
  have hl := rgT_len N F on own t
  have key : ∀ (y k ago : Nat), t < ago → (rgT N F on own t).sentM y k ago = [] := fun y k ago h1 => by
    unfold RingM.sentM
    rw [hl, if_pos h1]
  unfold insT RingM.insM
  have hc : (way = 0 ∧ p = 0) ∨ (way = 0 ∧ p = 1) ∨ (way = 1 ∧ p = 0) ∨ (way = 1 ∧ p = 1) := by omega
  rcases hc with ⟨rfl, rfl⟩ | ⟨rfl, rfl⟩ | ⟨rfl, rfl⟩ | ⟨rfl, rfl⟩
  · exact key _ 0 1 ht
  · exact key _ 1 2 ht
  · exact key _ 2 1 ht
  · exact key _ 3 2 ht
theorem inRow_nilP (n s : Nat) : inRow n [] s = rw0 := rfl
theorem dist_prev {way s i d k : Nat} (hw : way < 2) (h4 : 4 ≤ N) (hs : s < N) (hi : i < N) (hd : distM N i way s = d) (hk : k ≤ d) (hk2 : k ≤ 2) : distM N (prevN N way i k) way s = d - k ∧ prevN N way i k < N := by
  have hdN : d < N := by rw [← hd]; unfold distM; split <;> exact Nat.mod_lt _ (by omega)
  have hn := node_dist (way := way) hs hi
  rw [hd] at hn
  have h2 := prev_node (N := N) (way := way) hs hdN hk hk2 h4
  rw [hn] at h2
  rw [h2]
  exact ⟨dist_node hs (by omega), nodeAt_lt (by omega)⟩
/-- what was ahead of all -/
theorem trk_early (h4 : 4 ≤ N) (hF : F.acts = []) (hon : ∀ t i, on t i = true) {way s : Nat} (hw : way < 2) (hs : s < N) : ∀ (t i : Nat), i < N → t < distM N i way s → trk N F on own t i (2 * way) s = rw0 := by
  have hodd : ∀ i k, oddL N F i k = false := fun i k => by unfold oddL; simp [hF]
  intro t
  induction t using Nat.strongRecOn with
  | ind t ih =>
    intro i hi hd
    have hne : s ≠ i := by
      rintro rfl
      have : distM N s way s = 0 := by unfold distM; split <;> simp
      omega
    unfold trk
    rw [if_neg (fun h => hne h.2)]
    unfold momM sideM
    rw [show 2 * way / 2 = way from by omega, if_neg (by omega), show 2 * way % 2 = 0 from by omega, if_pos rfl, if_pos rfl]
    by_cases h1 : distM N i way s = 1
    · rw [if_pos h1]
      have h0 := insT_early N F on own (t := t) (x := i) (way := way) (p := 0) hw (by omega) (by omega)
      rw [show 2 * way + 0 = 2 * way from rfl] at h0
      rw [h0]; rfl
    · rw [if_neg h1]
      by_cases ht : t < 2
      · rw [insT_early N F on own (p := 1) hw (by omega) (by omega)]; rfl
      · rw [insT_eq N F on own (p := 1) hw (by omega) (by omega), sentT_good N F on own (hodd _ _), if_pos (hon _ _)]
        have hp := dist_prev N (k := 2) hw h4 hs hi rfl (by omega) (by omega)
        have hq : (if 2 * way + 1 < 2 then 0 else 2) = 2 * way := by
          have : way = 0 ∨ way = 1 := by omega
          rcases this with rfl | rfl <;> rfl
        rw [hq]
        unfold inRow
        rw [tab_at hs]
        show (trk N F on own (t - 2) (prevN N way i 2) (2 * way) s).plain N = rw0
        rw [ih (t - 2) (by omega) _ hp.2 (by rw [hp.1]; omega), rw0_plain]
/-- each word has of each source what that said as many ticks ago as it is away -/
theorem trk_round (h4 : 4 ≤ N) (hF : F.acts = []) (hon : ∀ t i, on t i = true) (ho : ∀ t s, (own t s).ok) {way s t i : Nat} (hw : way < 2) (hs : s < N) (hi : i < N) :
    trk N F on own t i (2 * way) s = if distM N i way s ≤ t then (own (t - distM N i way s) s).plain N else rw0 := by
  have hodd : ∀ i k, oddL N F i k = false := fun i k => by unfold oddL; simp [hF]
  have hdN : distM N i way s < N := by unfold distM; split <;> exact Nat.mod_lt _ (by omega)
  by_cases hd : distM N i way s ≤ t
  · rw [if_pos hd]
    have hp := path_track N F on own (way := way) (s := s) (τ := t - distM N i way s) hw h4 hs (v := (own (t - distM N i way s) s).plain N) rfl (Rw.plain_twice (ho _ _)) (distM N i way s) hdN (fun _ _ _ => hodd _ _) (fun _ => hodd _ _)
    rw [node_dist hs hi, show t - distM N i way s + distM N i way s = t from by omega] at hp
    rcases hp with h | ⟨-, t', i', -, h⟩
    · exact h
    · rw [hon] at h; cases h
  · rw [if_neg hd]
    exact trk_early N F on own h4 hF hon hw hs t i hi (by omega)
/-- what goes out -/
theorem sent_round (h4 : 4 ≤ N) (hF : F.acts = []) (hon : ∀ t i, on t i = true) (ho : ∀ t s, (own t s).ok) {way t i : Nat} (hw : way < 2) (hi : i < N) :
    sentT N F on own t i (2 * way) = tab N fun s => if distM N i way s ≤ t then (own (t - distM N i way s) s).plain N else rw0 := by
  have hodd : ∀ i k, oddL N F i k = false := fun i k => by unfold oddL; simp [hF]
  rw [sentT_good N F on own (hodd _ _), if_pos (hon _ _)]
  have hq : (if 2 * way < 2 then 0 else 2) = 2 * way := by
    have : way = 0 ∨ way = 1 := by omega
    rcases this with rfl | rfl <;> rfl
  rw [hq]
  exact tab_congr fun s hs => trk_round N F on own h4 hF hon ho hw hs hi
end
end Go.Proofs.Ytbdklfcgcmdgaaa
namespace Go.Proofs.Ytbdklfcgcmdgaaa
open Go.RowKit
set_option linter.unusedVariables false
set_option linter.unusedSimpArgs false

/-- the parts laid one behind the other -/
def lay (pl : List (Nat × Nat)) : List Value → List (Nat × Value) → List Value
  | z, [] => z
  | z, (i, v) :: r => lay pl (spl z ((pl[i]?.getD (0, 0)).1) (cellsL v)) r
theorem fill_lay (pl : List (Nat × Nat)) : ∀ (ps : List (Nat × Value)) (z : List Value), (∀ p ∈ ps, ∃ off sz, pl[p.1]? = some (off, sz) ∧ (cellsL p.2).length = sz ∧ off + sz ≤ z.length) → Instr.fill (pl.toArray[·]?) z.toArray ps = some (lay pl z ps).toArray
  | [], z, _ => fill_nil _ _
  | (i, v) :: r, z, h => by
    obtain ⟨off, sz, h1, h2, h3⟩ := h (i, v) (by simp)
    rw [fill_one _ z i off sz v r (by simpa using h1) h2 h3, lay, h1, Option.getD_some]
    refine fill_lay pl r _ fun p hp => ?_
    obtain ⟨o', s', k1, k2, k3⟩ := h p (by simp [hp])
    exact ⟨o', s', k1, k2, by rw [len_spl (by rw [h2]; omega)]; exact k3⟩
def sd9 : List Value := [.bool true, .int .i64 0, .int .u8 9, .int .u8 0, .int .u32 0, .int .u32 0]
def vwH : List Value := List.replicate 8 (.bool false) ++ (List.replicate 8 (.int .u8 0) ++ (List.replicate 8 (.int .u8 0) ++ (List.replicate 8 (.int .u16 0) ++ List.replicate 8 (.bool false))))
@[go_sem] theorem len_vwH : vwH.length = 40 := by kernel_rfl
def lvC : List Value := .int .i64 (-5) :: (sd9 ++ (saidZ ++ (vwH ++ [.int .i8 99, .int .u8 0])))
def lvD : List Value := .int .i64 (-1) :: (saidZ ++ (saidZ ++ (vwH ++ [.int .i8 (-1), .int .u8 0])))
theorem lvC_ok : okL cellK lvC = true := by kernel_rfl
theorem lvD_ok : okL cellK lvD = true := by kernel_rfl
theorem lvC_nrm : nrm lvC = lvD := by kernel_rfl
def age5 : List Value := .int .i64 5 :: cellR
def age7 : List Value := .int .i64 7 :: cellR
theorem age5_ok : okL cellK age5 = true := by kernel_rfl
theorem age7_ok : okL cellK age7 = true := by kernel_rfl
theorem age7_nrm : nrm age7 = age7 := by kernel_rfl
def rw5 : Rw := ⟨false, age5, []⟩
def rw7 : Rw := ⟨true, age7, []⟩
theorem rw5_ok : rw5.ok := ⟨age5_ok, by simp [rw5]⟩
theorem rw7_ok : rw7.ok := ⟨age7_ok, by simp [rw7]⟩
theorem rw5_norm : normW 2 [rw5] = [rw0, rw0] := rfl
theorem rw7_plain : rw7.plain 1 = ⟨true, age7, [hd0]⟩ := by
  show (⟨true, nrm age7, fillH 1 []⟩ : Rw) = _
  rw [age7_nrm]; rfl
section
variable (ρ : Operand → Value) (d : Option Tmp) (x y u : Operand) (ty : TypeId) (s : String) (af : Array Edge) (g : Option (Nat × Bool)) (w : World)
theorem bt_pay : buildT Try.prog 40 [.int .u8 0, .int .u8 0, .int .u32 0, .int .u32 0] [(0, 1), (1, 1), (2, 1), (3, 1)] := by unfold buildT; exact ⟨by kernel_rfl, by kernel_rfl⟩
theorem bt_view : buildT Try.prog 49 (vwH ++ [.int .i8 0, .int .u8 0]) [(0, 8), (8, 8), (16, 8), (24, 8), (32, 8), (40, 1), (41, 1)] := by unfold buildT; exact ⟨by kernel_rfl, by kernel_rfl⟩
@[go_sem ↓] theorem bk_pay (h : lenC (ρ x) 1 = true) : (execOp ρ { dst := d, op := .build 40 #[(0, x)], type := ty, pos := s, after := af, guard := g }).run Try.prog w = .ok (.value (.agg (cellsL (ρ x) ++ [Value.int .u8 0, Value.int .u32 0, Value.int .u32 0]).toArray)) w := by
  rw [exec_build1 bt_pay (i := 0) rfl (by simp) ρ d x ty s af g w h]
  have hl : (cellsL (ρ x)).length = 1 := by simpa [lenC] using h
  simp [spl, hl]
@[go_sem ↓] theorem bk_said (h : lenC (ρ x) 1 = true) (h2 : lenC (ρ y) 4 = true) : (execOp ρ { dst := d, op := .build 42 #[(0, x), (2, y)], type := ty, pos := s, after := af, guard := g }).run Try.prog w = .ok (.value (.agg (cellsL (ρ x) ++ (Value.int .i64 0 :: cellsL (ρ y))).toArray)) w := by
  have hl : (cellsL (ρ x)).length = 1 := by simpa [lenC] using h
  have hl2 : (cellsL (ρ y)).length = 4 := by simpa [lenC] using h2
  refine exec_build ρ d _ ty s af g w ?_
  rw [built_of bt_said, fill_lay]
  · simp [lay, spl, saidZ, hl, hl2, List.take_append, List.drop_append, List.take_of_length_le, List.drop_of_length_le]
  · simp [hl, hl2, saidZ]
    exact ⟨⟨_, _, ⟨rfl, rfl⟩, rfl, by omega⟩, ⟨_, _, ⟨rfl, rfl⟩, rfl, by omega⟩⟩
@[go_sem ↓] theorem bk_view (h : lenC (ρ x) 1 = true) : (execOp ρ { dst := d, op := .build 49 #[(5, x)], type := ty, pos := s, after := af, guard := g }).run Try.prog w = .ok (.value (.agg (vwH ++ (cellsL (ρ x) ++ [Value.int .u8 0])).toArray)) w := by
  rw [exec_build1 bt_view (i := 5) rfl (by simp [len_vwH]) ρ d x ty s af g w h]
  have hl : (cellsL (ρ x)).length = 1 := by simpa [lenC] using h
  have e : spl (vwH ++ [.int .i8 0, .int .u8 0]) 40 (cellsL (ρ x)) = vwH ++ (cellsL (ρ x) ++ [Value.int .u8 0]) := by
    have hv := len_vwH
    simp [spl, hl, hv, List.take_append, List.drop_append, List.take_of_length_le, List.drop_of_length_le]
  rw [e]
@[go_sem ↓] theorem bk_cell013 (h : lenC (ρ x) 1 = true) (h2 : lenC (ρ y) 6 = true) (h3 : lenC (ρ u) 42 = true) : (execOp ρ { dst := d, op := .build 51 #[(0, x), (1, y), (3, u)], type := ty, pos := s, after := af, guard := g }).run Try.prog w = .ok (.value (.agg (cellsL (ρ x) ++ (cellsL (ρ y) ++ (saidZ ++ cellsL (ρ u)))).toArray)) w := by
  have hl : (cellsL (ρ x)).length = 1 := by simpa [lenC] using h
  have hl2 : (cellsL (ρ y)).length = 6 := by simpa [lenC] using h2
  have hl3 : (cellsL (ρ u)).length = 42 := by simpa [lenC] using h3
  have hz : saidZ.length = 6 := rfl
  have hv : viewZ.length = 42 := by kernel_rfl
  refine exec_build ρ d _ ty s af g w ?_
  rw [built_of bt_cell, fill_lay]
  · simp [lay, spl, cellZ, hl, hl2, hl3, hz, hv, List.take_append, List.drop_append, List.take_of_length_le, List.drop_of_length_le]
  · simp [hl, hl2, hl3, len_cellZ]
    exact ⟨⟨_, _, ⟨rfl, rfl⟩, rfl, by omega⟩, ⟨_, _, ⟨rfl, rfl⟩, rfl, by omega⟩, ⟨_, _, ⟨rfl, rfl⟩, rfl, by omega⟩⟩
@[go_sem ↓] theorem bk_cell03 (h : lenC (ρ x) 1 = true) (h3 : lenC (ρ u) 42 = true) : (execOp ρ { dst := d, op := .build 51 #[(0, x), (3, u)], type := ty, pos := s, after := af, guard := g }).run Try.prog w = .ok (.value (.agg (cellsL (ρ x) ++ (saidZ ++ (saidZ ++ cellsL (ρ u)))).toArray)) w := by
  have hl : (cellsL (ρ x)).length = 1 := by simpa [lenC] using h
  have hl3 : (cellsL (ρ u)).length = 42 := by simpa [lenC] using h3
  have hz : saidZ.length = 6 := rfl
  have hv : viewZ.length = 42 := by kernel_rfl
  refine exec_build ρ d _ ty s af g w ?_
  rw [built_of bt_cell, fill_lay]
  · simp [lay, spl, cellZ, hl, hl3, hz, hv, List.take_append, List.drop_append, List.take_of_length_le, List.drop_of_length_le]
  · simp [hl, hl3, len_cellZ]
    exact ⟨⟨_, _, ⟨rfl, rfl⟩, rfl, by omega⟩, ⟨_, _, ⟨rfl, rfl⟩, rfl, by omega⟩⟩
@[go_sem ↓] theorem bk_row1 (h : lenC (ρ x) 55 = true) : (execOp ρ { dst := d, op := .build 54 #[(1, x)], type := ty, pos := s, after := af, guard := g }).run Try.prog w = .ok (.value (.agg (Value.bool false :: (cellsL (ρ x) ++ [Value.slice none 0 0])).toArray)) w := by
  rw [exec_build1 bt_row (i := 1) rfl (by rw [len_rowZ]; omega) ρ d x ty s af g w h]
  have hl : (cellsL (ρ x)).length = 55 := by simpa [lenC] using h
  have : spl rowZ 1 (cellsL (ρ x)) = .bool false :: (cellsL (ρ x) ++ [.slice none 0 0]) := by
    have h2 := len_cellZ
    simp only [spl, rowZ, List.take_succ_cons, List.take_zero, List.cons_append, List.nil_append, hl, List.cons.injEq, true_and]
    try congr 1
    try rw [show 1 + 55 = cellZ.length + 1 from by rw [h2], List.drop_succ_cons, List.drop_left]
  rw [this]
@[go_sem ↓] theorem bk_row01 (h1 : lenC (ρ x) 1 = true) (h2 : lenC (ρ y) 55 = true) : (execOp ρ { dst := d, op := .build 54 #[(0, x), (1, y)], type := ty, pos := s, after := af, guard := g }).run Try.prog w = .ok (.value (.agg (cellsL (ρ x) ++ (cellsL (ρ y) ++ [Value.slice none 0 0])).toArray)) w :=
  exec_build2of bt_row rfl rfl (by rw [len_rowZ]; rfl) (by kernel_rfl) ρ d x y ty s af g w h1 h2
theorem bt_word : buildT Try.prog 34 [.slice none 0 0] [(0, 1)] := by unfold buildT; exact ⟨by kernel_rfl, by kernel_rfl⟩
theorem bt_rword : buildT Try.prog 63 [.slice none 0 0] [(0, 1)] := by unfold buildT; exact ⟨by kernel_rfl, by kernel_rfl⟩
@[go_sem ↓] theorem bk_word (h : lenC (ρ x) 1 = true) : (execOp ρ { dst := d, op := .build 34 #[(0, x)], type := ty, pos := s, after := af, guard := g }).run Try.prog w = .ok (.value (.agg (cellsL (ρ x)).toArray)) w := by
  rw [exec_build1 bt_word (i := 0) rfl (by simp) ρ d x ty s af g w h]
  have hl : (cellsL (ρ x)).length = 1 := by simpa [lenC] using h
  simp [spl, hl]
@[go_sem ↓] theorem bk_rword (h : lenC (ρ x) 1 = true) : (execOp ρ { dst := d, op := .build 63 #[(0, x)], type := ty, pos := s, after := af, guard := g }).run Try.prog w = .ok (.value (.agg (cellsL (ρ x)).toArray)) w := by
  rw [exec_build1 bt_rword (i := 0) rfl (by simp) ρ d x ty s af g w h]
  have hl : (cellsL (ρ x)).length = 1 := by simpa [lenC] using h
  simp [spl, hl]
end
theorem rdRs_one {w : World} {g : Nat} {t : TypeId} {r : Rw} (h : Blk w g t (r.vals (.slice none 0 0)).toArray) (hr : r.ok) (ht : r.t = []) : RdRs (· = g) w (some ⟨g, 0, none⟩) 1 [r] := by
  refine ⟨rfl, by simp [hr], fun k q hq => ?_⟩
  have hk : k = 0 := by have := (List.getElem?_eq_some_iff.1 hq).1; simpa using this
  subst hk
  simp at hq
  subst hq
  obtain ⟨q1, q2, -⟩ := h.whole (Rw.len hr _)
  exact ⟨g, 0, none, 0, 0, rfl, rfl, h.lt, by simpa using q1, by simpa using q2, by rw [ht]; exact ⟨rfl, by simp, by simp⟩, Nat.le_refl _, by simp⟩

end Go.Proofs.Ytbdklfcgcmdgaaa
namespace Go.Proofs.Ytbdklfcgcmdgaaa
open Go.RowKit
set_option linter.unusedVariables false
set_option linter.unusedSimpArgs false

/-- the example's row -/
def rx : Rw := ⟨true, age7, [hd0, hd0, hd0, hd0]⟩
theorem hd0_nrm : hd0.nrm = hd0 := rfl
theorem rx_ok : rx.ok := ⟨age7_ok, fun h hh => by simp [rx] at hh; rw [hh]; exact hd0_ok⟩
theorem rx_plain : rx.plain (4 : Nat) = rx := by
  unfold Rw.plain rx
  rw [if_pos (by decide)]
  show Rw.mk true (nrm age7) (fillH 4 [hd0, hd0, hd0, hd0]) = _
  rw [age7_nrm]
  simp [fillH, hd0_nrm]
def iNo : Nat → List Rw := fun _ => []
def iAt (k : Nat) : Nat → List Rw := fun i => if i = k then [rx] else []
def lv0 : LaneM := LaneM.new 4 1
def lv1 : LaneM := lv0.put iNo
def lv2 : LaneM := lv1.put (iAt 0)
def lv3 : LaneM := lv2.said rw0
def lv4 : LaneM := lv3.put iNo
def lv5 : LaneM := lv4.put (iAt 3)
def lv6 : LaneM := lv5.put iNo
def lv7 : LaneM := lv6.put iNo
theorem inRow_nil (n s : Nat) : inRow n [] s = rw0 := rfl
theorem inRow_rx : inRow 4 [rx] 0 = rx := rx_plain
theorem rx_is : rx.is = true := rfl
theorem rx_ne : rx ≠ rw0 := fun e => by have := congrArg Rw.is e; cases this
theorem lv_out0 : lv3.past 1 0 0 = rx := inRow_rx
theorem lv_out2 : lv3.past 1 2 0 = rw0 := rfl
theorem lv_held0 : lv6.held 0 = rx := by
  have e : lv6.held 0 = certM [lv3.past 1 0 0, lv3.past 1 1 0, momM 4 1 (iAt 3) 2 0, momM 4 1 (iAt 3) 3 0] := rfl
  have e2 : momM 4 1 (iAt 3) 2 0 = rx := inRow_rx
  have e3 : momM 4 1 (iAt 3) 3 0 = rw0 := rfl
  have e4 : lv3.past 1 1 0 = rw0 := rfl
  rw [e, lv_out0, e2, e3, e4]
  refine certM_one ⟨rx_is, 0, 2, by omega, rfl, rfl⟩ fun r hr => ?_
  obtain ⟨h1, j, i, -, -, h2⟩ := hr
  have := List.mem_of_getElem? h2
  simp only [List.mem_cons, List.not_mem_nil, or_false] at this
  rcases this with h | h | h | h
  · exact h
  · rw [h] at h1; cases h1
  · exact h
  · rw [h] at h1; cases h1
theorem certM_zero : certM [rw0, rw0, rw0, rw0] = rw0 := certM_none fun r hr => by
  obtain ⟨h1, j, i, -, -, h2⟩ := hr
  have := List.mem_of_getElem? h2
  simp only [List.mem_cons, List.not_mem_nil, or_false] at this
  rcases this with h | h | h | h <;> (rw [h] at h1; cases h1)
theorem lv_held2 : lv6.held 2 = rw0 := by
  have e : lv6.held 2 = certM [rw0, rw0, rw0, rw0] := rfl
  rw [e, certM_zero]
theorem lv_late0 : lv7.held 0 = rw0 := by
  have e : lv7.held 0 = certM [rw0, rw0, rw0, rw0] := rfl
  rw [e, certM_zero]

/-- a lane whose blocks lie from B on, but for those from lo to hi; these are as they were in w3 -/
structure LvI (w w1 w3 : World) (p gp : Nat) (G : Nat → Nat) (S : Nat → Prop) (L : LaneM) (wr : World) : Prop where
  l : LaneAt S wr p gp G L
  s : ∀ b, S b → w.heap.size ≤ b ∧ (b < w1.heap.size ∨ w3.heap.size ≤ b)
  k : ∀ b, w1.heap.size ≤ b → b < w3.heap.size → wr.heap[b]? = w3.heap[b]?
  bel : Below w.heap.size w wr
  sz : w.heap.size ≤ w1.heap.size ∧ w1.heap.size ≤ w3.heap.size ∧ w3.heap.size ≤ wr.heap.size
theorem LvI.below {w w1 w3 : World} {p gp : Nat} {G : Nat → Nat} {S : Nat → Prop} {L : LaneM} {wr w' : World} (h : LvI w w1 w3 p gp G S L wr) (hb : Below wr.heap.size wr w') : LvI w w1 w3 p gp G S L w' := by
  obtain ⟨z1, z2, z3⟩ := h.sz
  have := hb.size
  exact ⟨h.l.below hb, h.s, fun b h1 h2 => (hb.block b (by omega)).trans (h.k b h1 h2), h.bel.trans (hb.mono (by omega)), z1, z2, by omega⟩
/-- behind a call that writes the lane's blocks alone -/
theorem LvI.next {w w1 w3 : World} {p gp : Nat} {G G' : Nat → Nat} {S T : Nat → Prop} {L L' : LaneM} {wr w' : World} {m : Nat} (h : LvI w w1 w3 p gp G S L wr) (hm : wr.heap.size ≤ m) (hl : LaneAt (GrowS S wr.heap.size m) w' p gp G' L') (hc : Chg T wr w') (hT : ∀ b, T b → S b) : LvI w w1 w3 p gp G' (GrowS S wr.heap.size m) L' w' := by
  obtain ⟨z1, z2, z3⟩ := h.sz
  have hz := hc.size
  refine ⟨hl, fun b hb => ?_, fun b h1 h2 => (hc.block b (by omega) (fun hb => ?_)).trans (h.k b h1 h2), h.bel.trans (hc.below (by omega) fun k hk => (h.s k (hT k hk)).1), z1, z2, by omega⟩
  · rcases hb with hb | hb
    · exact h.s b hb
    · exact ⟨by omega, .inr (by omega)⟩
  · have := (h.s b (hT b hb)).2
    omega
theorem insR_no (w : World) : InsR (fun _ => False) w (fun _ => none) (fun _ => 0) (fun _ => 0) iNo := ⟨fun _ _ => rdRs_nil _ _, fun _ _ => ⟨Nat.le_refl _, by simp⟩⟩
theorem iNo_ok : ∀ i, ∀ r ∈ iNo i, r.ok := fun i r hr => by cases hr
theorem iAt_ok (k : Nat) : ∀ i, ∀ r ∈ iAt k i, r.ok := fun i r hr => by
  unfold iAt at hr
  split at hr
  · simp at hr; rw [hr]; exact rx_ok
  · cases hr
theorem insR_at {w : World} {sb tb k : Nat} (h : RdRs (fun b => b = sb ∨ b = tb) w (some ⟨sb, 0, none⟩) 1 [rx]) : InsR (fun b => b = sb ∨ b = tb) w (fun i => if i = k then some ⟨sb, 0, none⟩ else none) (fun i => if i = k then 1 else 0) (fun i => if i = k then 1 else 0) (iAt k) := by
  refine ⟨fun i _ => ?_, fun i _ => ?_⟩
  · by_cases e : i = k
    · simp only [e, if_true, iAt]; exact h
    · simp only [e, if_false, iAt]; exact rdRs_nil _ _
  · by_cases e : i = k
    · simp [e, maxLen]
    · simp [e]
end Go.Proofs.Ytbdklfcgcmdgaaa
