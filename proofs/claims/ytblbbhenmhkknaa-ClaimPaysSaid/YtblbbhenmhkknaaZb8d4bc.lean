/- The reference: the error of a further claim. The reference: Cost (F31) at an error. -/
import Derived.Test.YtblbbhenmhkknaaZ9029f7
import Derived.Test.YtblbbhenmhkknaaZdfe21b
namespace Go.Proofs.Ytblbbhenmhkknaa
open Go.RowKit

theorem take_step' {α : Type} {l : List α} {k : Nat} {x : α} (h : l[k]? = some x) : l.take (k + 1) = l.take k ++ [x] := by
  rw [List.take_add_one, h]; rfl

set_option maxRecDepth 100000 in
set_option maxHeartbeats 4000000 in
theorem refFurther_any (lo hi : Int) (A D : Option Addr) (cs : List Clm) (B cap capD : Nat) (P : Int) (ds : List Int) (f : Clm) (w : World) (hm : cs.length ≤ cap) (hcm : cap ≤ maxLen) (hok : ClmsOk cs) (hfs : f.name.size ≤ maxLen) (hR : RdN 4 encClm w B A cs) (hB : B ≤ w.heap.size) (hD : Rd1 iv w B D ds) (hdm : ds.length ≤ maxLen) :
    Calls Try.prog 52 #[.agg #[.int .i64 lo, .int .i64 hi, .slice A cs.length cap], .agg #[.int .i64 P, .slice D ds.length capD], .agg #[.string f.name, .int .i64 f.rank, .int .i64 f.lo, .int .i64 f.hi]] w fun e w' => e = .returned (iv (furtherE lo hi cs P ds f)) ∧ Below w.heap.size w w' := by
  obtain ⟨i0, hi0, hz0, hz1, hz2⟩ := info_parts Try.info9s
  obtain ⟨W1, hW1⟩ : ∃ W1, ((w.alloc (.cells #[.int .i64 lo, .int .i64 hi, .slice A cs.length cap] 42)).alloc (.cells #[.int .i64 P, .slice D ds.length capD] 44)).alloc (.cells #[.string f.name, .int .i64 f.rank, .int .i64 f.lo, .int .i64 f.hi] 46) = W1 := ⟨_, rfl⟩
  have hb0 : Below w.heap.size w W1 := by rw [← hW1]; exact belowA (belowA (belowA (belowR _) _) _) _
  have p0 : W1.cell? ⟨w.heap.size, 0, none⟩ = some (.int .i64 lo) := by rw [← hW1]; clear hW1; go_simp
  have p1 : W1.cell? ⟨w.heap.size, 1, none⟩ = some (.int .i64 hi) := by rw [← hW1]; clear hW1; go_simp
  have p2 : W1.cell? ⟨w.heap.size, 2, none⟩ = some (.slice A cs.length cap) := by rw [← hW1]; clear hW1; go_simp
  have q0 : W1.cell? ⟨w.heap.size + 1, 0, none⟩ = some (.int .i64 P) := by rw [← hW1]; clear hW1; go_simp
  have q1 : W1.cell? ⟨w.heap.size + 1, 1, none⟩ = some (.slice D ds.length capD) := by rw [← hW1]; clear hW1; go_simp
  have r0 : W1.cell? ⟨w.heap.size + 1 + 1, 0, none⟩ = some (.string f.name) := by rw [← hW1]; clear hW1; go_simp
  have r1 : W1.cell? ⟨w.heap.size + 1 + 1, 1, none⟩ = some (.int .i64 f.rank) := by rw [← hW1]; clear hW1; go_simp
  have r2 : W1.cell? ⟨w.heap.size + 1 + 1, 2, none⟩ = some (.int .i64 f.lo) := by rw [← hW1]; clear hW1; go_simp
  have r3 : W1.cell? ⟨w.heap.size + 1 + 1, 3, none⟩ = some (.int .i64 f.hi) := by rw [← hW1]; clear hW1; go_simp
  have HB0 := Lib.hid hb0
  have hz1' : w.heap.size + 1 + 1 < W1.heap.size := lt_of_cell r0
  have hrt := refTruth_any lo hi A D cs B cap capD P ds W1 hm hcm hok (hR.below hb0 hB) (by omega) (hD.below hb0 hB) hdm
  obtain ⟨E, hE⟩ : ∃ E, truthE lo hi cs P ds = E := ⟨_, rfl⟩
  obtain ⟨T, hT⟩ : ∃ T, furtherE lo hi cs P ds f = T := ⟨_, rfl⟩
  have hT2 := hT
  unfold furtherE at hT2
  rw [hE] at hrt hT2
  rw [hT]
  have hcs8 : E = 0 → cs.length ≤ 8 := fun h => (est_ok (truthE_ok (hE.trans h)).1.est).len.2
  have HRT := Lib.hid hrt
  have HR1 := Lib.hid (hR.below hb0 hB)
  clear hrt hE hb0 hR hD hT
  go_enter Try.func52, Try.ntmps52
  go_wp2_with fail
  refine HRT.out.mono ?_
  rintro e w1 ⟨rfl, hb1⟩
  have p2 := keepC hb1 p2
  have r0 := keepC hb1 r0
  have r1 := keepC hb1 r1
  have r2 := keepC hb1 r2
  have r3 := keepC hb1 r3
  have hz2' := hb1.size
  have HBC := Lib.hid hb1
  have HR2 := Lib.hid (HR1.out.below hb1 (by omega))
  clear hb1 HRT hW1 p0 p1 q0 q1 HR1
  by_cases h1 : E = 0
  case neg =>
    have hne : (E == 0) = false := by simp [h1]
    have hne2 : (E != 0) = true := by simp [h1]
    rw [if_neg h1] at hT2
    subst hT2
    clear h1 hcs8
    go_wp2_with fail
    go_ret
    exact ⟨rfl, belowT HB0.out HBC.out⟩
  have hcs8 := hcs8 h1
  rw [if_pos h1] at hT2
  subst h1
  by_cases h8 : cs.length = 8
  · have h8b : ((cs.length : Int) == 8) = true := beq_iff_eq.2 (by omega)
    rw [if_pos h8] at hT2
    subst hT2
    clear h8
    go_wp2_with fail
    go_ret
    exact ⟨rfl, belowT HB0.out HBC.out⟩
  have h8b : ((cs.length : Int) == 8) = false := beq_eq_false_iff_ne.2 (by omega)
  rw [if_neg h8] at hT2
  have HT := Lib.hid hT2
  clear h8 hT2
  go_wp2_with fail
  go_loopw [9, 8] (fun vi vn wr => ∃ (k : Nat) (v : Value), k ≤ cs.length ∧ vi = .int .i64 k ∧ vn = v ∧ Hid (wr.ownsRow w1.heap.size 9 1 v k (((cs.take k).map Clm.name).map Value.string)) ∧ Below w1.heap.size w1 wr) (fun vi _ _ => cs.length - (intOf vi).toNat)
  case atStart => exact ⟨0, _, Nat.zero_le _, rfl, rfl, Lib.hid (World.ownsRow_nil _ _ _ _), belowR _⟩
  case round =>
    obtain ⟨k, v, hk, rfl, rfl, OWN, hbw⟩ := hrel
    have hzr := hbw.size
    have p2 := keepC hbw p2
    by_cases hlt : k < cs.length
    · obtain ⟨c, hx⟩ : ∃ x, cs[k]? = some x := ⟨_, List.getElem?_eq_getElem hlt⟩
      have htk1 := take_step' hx
      obtain ⟨b, off, rfl, _, e0, e1, e2, e3⟩ := clmAt (HR2.out.below hbw (by omega)) hx
      obtain ⟨name, rank, clo, chi⟩ := c
      simp only at e0
      have HTK := Lib.hid htk1
      have hkz : (k : Int) < (cs.length : Int) := by omega
      have hk0 : (0 : Int) ≤ (k : Int) := by omega
      have hnew : ∀ j u, [Value.string name][j]? = some u → (wr.alloc (.cells #[.string name] 9)).cell? ((⟨wr.heap.size, 0, none⟩ : Addr).add j) = some u := one_new _ _ _
      have HNW := Lib.hid hnew
      have HBW := Lib.hid hbw
      clear hnew hbw htk1 hx e1 e2 e3 r0 r1 r2 r3
      go_wp2_with (at_builtin; refine wpList_append_own _ rfl _ _ 28 rfl w1.heap.size 9 i0 (.string ⟨#[]⟩) 1 16 Try.underlying28 hi0 hz0 hz1 hz2 rfl (by decide) _ _ _ rfl (OWN.out.alloc _) ⟨wr.heap.size, 0, none⟩ 1 1 [.string name] rfl rfl ?c1 ?c2 ?c3 ?c4 ?c5 ?_)
      case c1 => exact HNW.out
      case c2 => simp [Value.oneCell']
      case c3 => unfold maxLen; omega
      case c4 => omega
      case c5 => simp; omega
      intro v' w4 hown' hgrow _
      have hB4 : Below w1.heap.size w1 w4 := grownB (OWN.out.alloc _) hgrow (Nat.le_refl _) (belowA HBW.out _)
      have HO' := Lib.hid hown'
      clear hgrow hown'
      go_wp2
      go_roundw
      case rel => exact ⟨k + 1, v', by omega, by go_num, rfl, Lib.hid (by have h := HO'.out; rw [HTK.out]; simpa using h), hB4⟩
      case measure => simp [intOf]; omega
    · obtain rfl : k = cs.length := by omega
      have own := OWN.out
      rw [List.take_length] at own
      have hnl : (cs.map Clm.name).length = cs.length := by simp
      obtain ⟨A2, cap2, rfl, hrd, hx2⟩ := own_rd1 (xs := cs.map Clm.name) (enc := Value.string) (by rw [hnl]; exact own)
      clear hx2
      have ht := refClaim_any A2 cs wr.heap.size cap2 f wr hfs (by unfold maxLen; omega) hrd (Nat.le_refl _)
      have r0 := keepC hbw r0
      have r1 := keepC hbw r1
      have r2 := keepC hbw r2
      have r3 := keepC hbw r3
      obtain ⟨TE, hTE⟩ : ∃ t, toldE cs f = t := ⟨_, rfl⟩
      have htt := HT.out
      rw [hTE] at ht htt
      have HTC := Lib.hid ht
      have HBW := Lib.hid (belowT HB0.out (belowT HBC.out hbw))
      rw [hnl]
      clear own hrd ht hTE hbw OWN hnl
      go_wp2_with fail
      refine HTC.out.mono ?_
      rintro e w5 ⟨rfl, hb5⟩
      have r2 := keepC hb5 r2
      have r3 := keepC hb5 r3
      have HB5 := Lib.hid (belowT HBW.out hb5)
      clear hb5 r0 r1 p2 HTC
      by_cases ht0 : TE = 0
      · rw [if_pos ht0] at htt
        subst ht0
        by_cases hlh : f.lo = f.hi
        · rw [if_pos hlh] at htt
          subst htt
          have hb : (f.lo != f.hi) = false := by simp [hlh]
          obtain ⟨flo, hflo⟩ : ∃ x, f.lo = x := ⟨_, rfl⟩
          obtain ⟨fhi, hfhi⟩ : ∃ x, f.hi = x := ⟨_, rfl⟩
          rw [hflo] at hb r2
          rw [hfhi] at hb r3
          clear hlh hflo hfhi
          go_wp2_with fail
          go_ret
          exact ⟨rfl, HB5.out⟩
        · rw [if_neg hlh] at htt
          subst htt
          have hb : (f.lo != f.hi) = true := by simp [hlh]
          obtain ⟨flo, hflo⟩ : ∃ x, f.lo = x := ⟨_, rfl⟩
          obtain ⟨fhi, hfhi⟩ : ∃ x, f.hi = x := ⟨_, rfl⟩
          rw [hflo] at hb r2
          rw [hfhi] at hb r3
          clear hlh hflo hfhi
          go_wp2_with fail
          go_ret
          exact ⟨rfl, HB5.out⟩
      · rw [if_neg ht0] at htt
        subst htt
        have hne : (TE == 0) = false := by simp [ht0]
        clear ht0
        go_wp2_with fail
        go_ret
        exact ⟨rfl, HB5.out⟩
end Go.Proofs.Ytblbbhenmhkknaa

namespace Go.Proofs.Ytblbbhenmhkknaa
open Go.RowKit

set_option maxRecDepth 100000 in
set_option maxHeartbeats 4000000 in
theorem refCost_no (lo hi : Int) (A D : Option Addr) (cs : List Clm) (B cap capD : Nat) (P : Int) (ds : List Int) (f : Clm) (w : World) (hm : cs.length ≤ cap) (hcm : cap ≤ maxLen) (hok : ClmsOk cs) (hfs : f.name.size ≤ maxLen) (hR : RdN 4 encClm w B A cs) (hB : B ≤ w.heap.size) (hD : Rd1 iv w B D ds) (hdm : ds.length ≤ maxLen) (hE : furtherE lo hi cs P ds f ≠ 0) :
    Calls Try.prog 31 #[.agg #[.int .i64 lo, .int .i64 hi, .slice A cs.length cap], .agg #[.int .i64 P, .slice D ds.length capD], .agg #[.string f.name, .int .i64 f.rank, .int .i64 f.lo, .int .i64 f.hi]] w (TruthNo (furtherE lo hi cs P ds f) w) := by
  obtain ⟨W1, hW1⟩ : ∃ W1, ((w.alloc (.cells #[.int .i64 lo, .int .i64 hi, .slice A cs.length cap] 42)).alloc (.cells #[.int .i64 P, .slice D ds.length capD] 44)).alloc (.cells #[.string f.name, .int .i64 f.rank, .int .i64 f.lo, .int .i64 f.hi] 46) = W1 := ⟨_, rfl⟩
  have hb0 : Below w.heap.size w W1 := by rw [← hW1]; exact belowA (belowA (belowA (belowR _) _) _) _
  have hop := refFurther_any lo hi A D cs B cap capD P ds f W1 hm hcm hok hfs (hR.below hb0 hB) (Nat.le_trans hB hb0.size) (hD.below hb0 hB) hdm
  rw [← hW1] at hop
  obtain ⟨E, hEE⟩ : ∃ E, furtherE lo hi cs P ds f = E := ⟨_, rfl⟩
  rw [hEE] at hop hE ⊢
  have hne : (E != 0) = true := by simpa using hE
  have HB0 := Lib.hid hb0
  rw [← hW1] at HB0
  have HOP := Lib.hid hop
  clear hop hEE hE hb0 hR hD hW1 W1
  go_enter Try.func31, Try.ntmps31
  go_wp2_with fail
  refine HOP.out.mono ?_
  rintro e w1 ⟨rfl, hb1⟩
  have HB1 := Lib.hid (belowT HB0.out hb1)
  clear hb1
  go_wp2
  go_ret2
  exact ⟨rfl, HB1.out⟩
end Go.Proofs.Ytblbbhenmhkknaa
