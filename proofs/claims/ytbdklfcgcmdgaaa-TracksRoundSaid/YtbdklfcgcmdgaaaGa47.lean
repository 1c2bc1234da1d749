/-
  (sennitlaw14.Fault).Great; sennitlaw14.plain. A ring in which nobody is faulty, and all are on: what each word has of each source. No program in sight.
-/
import Derived.Test.YtbdklfcgcmdgaaaGa36
import Derived.Test.YtbdklfcgcmdgaaaGa12
import Derived.Test.YtbdklfcgcmdgaaaGa25
import Derived.Test.YtbdklfcgcmdgaaaGa06
namespace Go.Proofs.Ytbdklfcgcmdgaaa
open Go.RowKit
set_option linter.unusedVariables false
set_option linter.unusedSimpArgs false

theorem RdAs.at_ {S : Nat → Prop} {w : World} {a : Option Addr} {len : Nat} {l : List ActM} (h : RdAs S w a len l) (k : Nat) (hk : k < len) :
    ∃ b off x m cap y, a = some ⟨b, off, none⟩ ∧ S b ∧ b < w.heap.size ∧ l[k]? = some y ∧ w.cell? ⟨b, off + k * 59 + 2 + 56, none⟩ = some (.slice x m cap) ∧ m ≤ cap ∧ cap ≤ maxLen ∧ y.row.t.length = m := by
  have hkk : l[k]? = some (l[k]'(by rw [h.1]; exact hk)) := List.getElem?_eq_getElem _
  obtain ⟨b, off, tv, e, hS, hb, r1, r2, x, m, cap, rfl, h5, h6, h7⟩ := h.2.2 k _ hkk
  have hok := h.2.1 _ (List.mem_of_getElem? hkk)
  refine ⟨b, off, x, m, cap, _, e, hS, hb, hkk, ?_, h6, h7, h5.1⟩
  have hc := row_cell r1 r2 58 (by omega)
  rw [show off + k * 59 + 2 + 56 = off + k * 59 + 58 from by omega, hc]
  have hl := hok.2.2.1
  have hl55 := okL_len hl
  have hl2 : (l[k]'(by rw [h.1]; exact hk)).row.c.length = 55 := by rw [hl55]; rfl
  show ((l[k]'(by rw [h.1]; exact hk)).row.vals (.slice x m cap))[56]? = _
  show ((l[k]'(by rw [h.1]; exact hk)).row.c ++ [.slice x m cap])[55]? = _
  rw [List.getElem?_append_right (by omega), hl2]; rfl
def FGreat (w : World) (e : Ending) (w' : World) : Prop := (∃ b, e = .returned (.bool b)) ∧ Below w.heap.size w w'
set_option maxRecDepth 100000 in
set_option maxHeartbeats 4000000 in
theorem fgreat_any (S : Nat → Prop) (F : FltM) (a : Option Addr) (len cap : Nat) (w : World) (hrd : RdAs S w a len F.acts) (hm1 : len ≤ cap) (hm2 : cap ≤ maxLen) (h47 : len ≤ 140737488355328) (hsz : ∀ x ∈ F.acts, x.row.t.length ≤ 140737488355328) :
    Calls Try.prog 28 #[.agg (F.vals (.slice a len cap)).toArray] w (FGreat w) := by
  unfold maxLen at hm2
  have HR := Lib.hid (And.intro hrd hsz)
  clear hrd hsz
  show Calls _ _ #[.agg #[.bool F.link, .int .u8 F.at_, .int .u8 F.which, .slice a len cap]] w _
  go_enter Try.func28, Try.ntmps28
  go_upto_region 1 with fail
  have hb : Blk (w.alloc (.cells #[.bool F.link, .int .u8 F.at_, .int .u8 F.which, .slice a len cap] 88)) w.heap.size 88 #[.bool F.link, .int .u8 F.at_, .int .u8 F.which, .slice a len cap] := Blk.new _ _ _
  have hB : Below w.heap.size w (w.alloc (.cells #[.bool F.link, .int .u8 F.at_, .int .u8 F.which, .slice a len cap] 88)) := (Below.refl _ _).alloc (Nat.le_refl _) _
  generalize w.alloc (.cells #[.bool F.link, .int .u8 F.at_, .int .u8 F.which, .slice a len cap] 88) = w0 at hb hB ⊢
  have c0 : w0.cell? ⟨w.heap.size, 3, none⟩ = some (.slice a len cap) := hb.cell 3
  have H0 := Lib.hid hB
  clear hb hB
  go_wp2_with fail
  go_loopw [3, 4] (fun n i wr => ∃ k T : Nat, k ≤ len ∧ i = .int .i64 k ∧ n = .int .i64 T ∧ T ≤ 281474976710656 ∧ wr = w0) (fun _ i _ => len - (intOf i).toNat)
  case atStart => exact ⟨0, len, by omega, rfl, rfl, by omega, rfl⟩
  case round =>
    obtain ⟨k, T, hk, rfl, rfl, hT, rfl⟩ := hrel
    by_cases hlt : k < len
    · by_cases h9 : T < 900
      · obtain ⟨b, off, x, m, cp, y, rfl, hS, hbw, hv, hc4, h6, h7, h8⟩ := HR.out.1.at_ k hlt
        have hmz := HR.out.2 y (List.mem_of_getElem? hv)
        rw [h8] at hmz
        have d4 := (H0.out.cell (p := ⟨b, off + k * 59 + 2 + 56, none⟩) hbw).trans hc4
        unfold maxLen at h7
        have h9' : (T : Int) < 900 := by omega
        have hlt1 : (k : Int) < len := by omega
        clear hc4 hv h8
        go_wp2_with fail
        exact ⟨⟨k + 1, T + m, by omega, by go_num, by go_num, by omega, trivial⟩, by simp [intOf]; omega⟩
      · have h9' : ¬ (T : Int) < 900 := by omega
        go_wp2_with fail
        go_ret
        exact ⟨⟨_, rfl⟩, H0.out⟩
    · have hlt1 : ¬ (k : Int) < len := by omega
      go_wp2_with fail
      go_ret
      exact ⟨⟨_, rfl⟩, H0.out⟩
set_option maxRecDepth 100000 in
set_option maxHeartbeats 4000000 in
theorem plain14_any (S : Nat → Prop) (N : Int) (a : Option Addr) (len cap : Nat) (l : List Rw) (w : World) (hrd : RdRs S w a len l) (hm1 : len ≤ cap) (hm2 : cap ≤ maxLen) (hbig : len ≤ 100000) :
    Calls Try.prog 31 #[.int .i64 N, .slice a len cap] w (RowsPost (l.map (Rw.plain N)) w) := by
  unfold maxLen at hm2
  have hll : (l.map (Rw.plain N)).length = len := by simp [hrd.1]
  have HR := Lib.hid hrd
  clear hrd
  go_enter Try.func31, Try.ntmps31
  go_wp2_with fail
  go_loopw [5, 6] (fun v i wr => ∃ k : Nat, k ≤ len ∧ i = .int .i64 k ∧ OS w 54 (l.map (Rw.plain N)) k v wr) (fun _ i _ => len - (intOf i).toNat)
  case atStart => exact ⟨0, by omega, rfl, OS.start _ _ _⟩
  case round =>
    obtain ⟨k, hk, rfl, hr⟩ := hrel
    by_cases hlt : k < len
    · obtain ⟨⟨ps, p1, p2, p3⟩, hB⟩ := hr
      obtain ⟨b, off, x, m, cp, r, rfl, hS, hbw, hv, hok, hrl, hrc1, hr1, hr2, hr3, hr4, hr5, hr6, hr7⟩ := HR.out.at_ k hlt
      have d := row_below hB (p := ⟨b, off + k * 57, none⟩) hbw 57
      have d1 := d.1.trans hr1
      have d2 : rowOf wr ⟨b, off + k * 57, none⟩ 57 = r.vals (.slice x m cp) := d.2.trans hr2
      have hrow : RowR S wr r (.slice x m cp) := ⟨x, m, cp, rfl, hr5.below hB (fun _ _ h => h), hr6, hr7⟩
      have HC := Lib.hid (plain_any S N r hok (.slice x m cp) wr hrow)
      have HO := Lib.hid p3.1
      have hv' : (l.map (Rw.plain N))[k]? = some (r.plain N) := by rw [List.getElem?_map, hv]; rfl
      have hok' : (r.plain N).ok := Rw.plain_ok hok
      have HK := Lib.hid (And.intro hB (And.intro p1 (And.intro p2 (And.intro p3 (And.intro hok' hv')))))
      have hwr := hB.size
      clear d hr1 hr2 hr3 hr4 hr5 hr6 hr7 hrow hB p1 p2 p3 hv hv' hrl hrc1
      go_wp2_with fail
      refine HC.out.mono ?_
      rintro e w5 ⟨tv, rfl, hrowx, hb5⟩
      have hrow5 := hrowx.1
      have hyl := Rw.len hok' tv
      have hyc := hrow5.cell1 hok'
      have hown : w5.ownsRow w.heap.size 54 57 u5 k (flatP ps) := by
        rw [← HK.out.2.1]
        exact own_block HO.out (fun q hq => hb5.block q (HO.out.lt q hq).2)
      have HO5 := Lib.hid hown
      have hs5 := hb5.size
      have H5 := Lib.hid (And.intro hb5 hrow5)
      clear hown hb5 hrow5 HO hrowx
      obtain ⟨yv, hyv⟩ : ∃ yv, yv = (r.plain N).vals tv := ⟨_, rfl⟩
      rw [← hyv] at hyl hyc ⊢
      have HYV := Lib.hid hyv
      clear hyv
      go_wp2_with (at_builtin; refine wpList_lies app_row (by rfl) (.tmp 13) (.tmp 20) (by rfl) w.heap.size _ _ _ (by rfl) (HO5.out.alloc _) ⟨w5.heap.size, 0, none⟩ 1 1 yv (by rfl) (by simp [hyl]) (hasRow_new w5 _ _ 0 57 (by simp [hyl])) ((rowOf_new w5 _ _ 0 57 (by simp [hyl])).trans (List.take_of_length_le (by simp [hyl]))) hyc (by omega) (by omega) (by simp; omega) ?_; intro gg cp w7 hown1 hgrow hlie; rw [HYV.out] at hown1; have H8 := Lib.hid (And.intro hown1 (And.intro hgrow hlie)); clear hown1 hgrow hlie)
      exact ⟨⟨k + 1, by omega, by go_num, OS.step HK.out.1 HK.out.2.1 HK.out.2.2.1 HK.out.2.2.2.1 (H5.out.1.alloc H5.out.1.size _) HK.out.2.2.2.2.1 HK.out.2.2.2.2.2 (H5.out.2.below ((Below.refl _ _).alloc (Nat.le_refl _) _)) H8.out.1 H8.out.2.1 H8.out.2.2⟩, by simp [intOf]; omega⟩
    · have hkl : k = len := by omega
      subst hkl
      have H := Lib.hid (hr.post hll.symm)
      clear hr
      go_wp2_with fail
      go_ret
      exact H.out
end Go.Proofs.Ytbdklfcgcmdgaaa
namespace Go.Proofs.Ytbdklfcgcmdgaaa
open Go.RowKit
set_option linter.unusedVariables false
set_option linter.unusedSimpArgs false

section
variable (N : Nat) (F : FltM) (on : Nat → Nat → Bool) (own : Nat → Nat → Rw)
theorem insT_early {t x way p : Nat} (hw : way < 2) (hp : p < 2) (ht : t < p + 1) : insT N F on own t x (2 * way + p) = [] := by
  have hl := rgT_len N F on own t
  have key : ∀ (y k ago : Nat), t < ago → (rgT N F on own t).sentM y k ago = [] := fun y k ago h1 => by
    unfold RingM.sentM
    rw [hl, if_pos h1]
  unfold insT RingM.insM
  have hc : (way = 0 ∧ p = 0) ∨ (way = 0 ∧ p = 1) ∨ (way = 1 ∧ p = 0) ∨ (way = 1 ∧ p = 1) := by omega
  rcases hc with ⟨rfl, rfl⟩ | ⟨rfl, rfl⟩ | ⟨rfl, rfl⟩ | ⟨rfl, rfl⟩
  · exact key _ 0 1 ht
  · exact key _ 1 2 ht
  · exact key _ 2 1 ht
  · exact key _ 3 2 ht
theorem inRow_nil (n s : Nat) : inRow n [] s = rw0 := rfl
theorem dist_prev {way s i d k : Nat} (hw : way < 2) (h4 : 4 ≤ N) (hs : s < N) (hi : i < N) (hd : distM N i way s = d) (hk : k ≤ d) (hk2 : k ≤ 2) : distM N (prevN N way i k) way s = d - k ∧ prevN N way i k < N := by
  have hdN : d < N := by rw [← hd]; unfold distM; split <;> exact Nat.mod_lt _ (by omega)
  have hn := node_dist (way := way) hs hi
  rw [hd] at hn
  have h2 := prev_node (N := N) (way := way) hs hdN hk hk2 h4
  rw [hn] at h2
  rw [h2]
  exact ⟨dist_node hs (by omega), nodeAt_lt (by omega)⟩
/-- what was ahead of all -/
theorem trk_early (h4 : 4 ≤ N) (hF : F.acts = []) (hon : ∀ t i, on t i = true) {way s : Nat} (hw : way < 2) (hs : s < N) : ∀ (t i : Nat), i < N → t < distM N i way s → trk N F on own t i (2 * way) s = rw0 := by
  have hodd : ∀ i k, oddL N F i k = false := fun i k => by unfold oddL; simp [hF]
  intro t
  induction t using Nat.strongRecOn with
  | ind t ih =>
    intro i hi hd
    have hne : s ≠ i := by
      rintro rfl
      have : distM N s way s = 0 := by unfold distM; split <;> simp
      omega
    unfold trk
    rw [if_neg (fun h => hne h.2)]
    unfold momM sideM
    rw [show 2 * way / 2 = way from by omega, if_neg (by omega), show 2 * way % 2 = 0 from by omega, if_pos rfl, if_pos rfl]
    by_cases h1 : distM N i way s = 1
    · rw [if_pos h1]
      have h0 := insT_early N F on own (t := t) (x := i) (way := way) (p := 0) hw (by omega) (by omega)
      rw [show 2 * way + 0 = 2 * way from rfl] at h0
      rw [h0]; rfl
    · rw [if_neg h1]
      by_cases ht : t < 2
      · rw [insT_early N F on own (p := 1) hw (by omega) (by omega)]; rfl
      · rw [insT_eq N F on own (p := 1) hw (by omega) (by omega), sentT_good N F on own (hodd _ _), if_pos (hon _ _)]
        have hp := dist_prev N (k := 2) hw h4 hs hi rfl (by omega) (by omega)
        have hq : (if 2 * way + 1 < 2 then 0 else 2) = 2 * way := by
          have : way = 0 ∨ way = 1 := by omega
          rcases this with rfl | rfl <;> rfl
        rw [hq]
        unfold inRow
        rw [tab_at hs]
        show (trk N F on own (t - 2) (prevN N way i 2) (2 * way) s).plain N = rw0
        rw [ih (t - 2) (by omega) _ hp.2 (by rw [hp.1]; omega), rw0_plain]
/-- each word has of each source what that said as many ticks ago as it is away -/
theorem trk_round (h4 : 4 ≤ N) (hF : F.acts = []) (hon : ∀ t i, on t i = true) (ho : ∀ t s, (own t s).ok) {way s t i : Nat} (hw : way < 2) (hs : s < N) (hi : i < N) :
    trk N F on own t i (2 * way) s = if distM N i way s ≤ t then (own (t - distM N i way s) s).plain N else rw0 := by
  have hodd : ∀ i k, oddL N F i k = false := fun i k => by unfold oddL; simp [hF]
  have hdN : distM N i way s < N := by unfold distM; split <;> exact Nat.mod_lt _ (by omega)
  by_cases hd : distM N i way s ≤ t
  · rw [if_pos hd]
    have hp := path_track N F on own (way := way) (s := s) (τ := t - distM N i way s) hw h4 hs (v := (own (t - distM N i way s) s).plain N) rfl (Rw.plain_twice (ho _ _)) (distM N i way s) hdN (fun _ _ _ => hodd _ _) (fun _ => hodd _ _)
    rw [node_dist hs hi, show t - distM N i way s + distM N i way s = t from by omega] at hp
    rcases hp with h | ⟨-, t', i', -, h⟩
    · exact h
    · rw [hon] at h; cases h
  · rw [if_neg hd]
    exact trk_early N F on own h4 hF hon hw hs t i hi (by omega)
/-- what goes out -/
theorem sent_round (h4 : 4 ≤ N) (hF : F.acts = []) (hon : ∀ t i, on t i = true) (ho : ∀ t s, (own t s).ok) {way t i : Nat} (hw : way < 2) (hi : i < N) :
    sentT N F on own t i (2 * way) = tab N fun s => if distM N i way s ≤ t then (own (t - distM N i way s) s).plain N else rw0 := by
  have hodd : ∀ i k, oddL N F i k = false := fun i k => by unfold oddL; simp [hF]
  rw [sentT_good N F on own (hodd _ _), if_pos (hon _ _)]
  have hq : (if 2 * way < 2 then 0 else 2) = 2 * way := by
    have : way = 0 ∨ way = 1 := by omega
    rcases this with rfl | rfl <;> rfl
  rw [hq]
  exact tab_congr fun s hs => trk_round N F on own h4 hF hon ho hw hs hi
end
end Go.Proofs.Ytbdklfcgcmdgaaa
