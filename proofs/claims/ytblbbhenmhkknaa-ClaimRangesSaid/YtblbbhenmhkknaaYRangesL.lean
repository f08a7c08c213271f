/- ClaimRanges: the law's function. -/
import Derived.Test.YtblbbhenmhkknaaYL5
import Derived.Test.YtblbbhenmhkknaaYG2
import Derived.Test.YtblbbhenmhkknaaYG3
namespace Go.Proofs.Ytblbbhenmhkknaa
open Go.RowKit

set_option maxRecDepth 1000000 in
set_option maxHeartbeats 8000000 in
theorem rangesLaw_no (lo hi at_ : Int) (A : Option Addr) (cs : List Clm) (B cap : Nat) (w : World) (hm : cs.length ≤ cap) (hcm : cap ≤ maxLen) (hok : ClmsOk cs) (hR : RdN 4 encClm w B A cs) (hB : B ≤ w.heap.size) (hE : estErr lo hi cs ≠ 0) :
    Calls Try.prog 5 #[.agg #[.int .i64 lo, .int .i64 hi, .slice A cs.length cap], .int .i64 at_] w fun e w' => e = .returned (.bool true) ∧ Below w.heap.size w w' := by
  obtain ⟨W1, hW1⟩ : ∃ W1, w.alloc (.cells #[.int .i64 lo, .int .i64 hi, .slice A cs.length cap] 42) = W1 := ⟨_, rfl⟩
  have hb0 : Below w.heap.size w W1 := by rw [← hW1]; exact belowA (belowR _) _
  have p0 : W1.cell? ⟨w.heap.size, 0, none⟩ = some (.int .i64 lo) := by rw [← hW1]; clear hW1; go_simp
  have p1 : W1.cell? ⟨w.heap.size, 1, none⟩ = some (.int .i64 hi) := by rw [← hW1]; clear hW1; go_simp
  have p2 : W1.cell? ⟨w.heap.size, 2, none⟩ = some (.slice A cs.length cap) := by rw [← hW1]; clear hW1; go_simp
  have HB0 := Lib.hid hb0
  have hz1 := hb0.size
  have h1 := fun W (hR : RdN 4 encClm W B A cs) (hB : B ≤ W.heap.size) => ranges_no lo hi A cs B cap W hm hcm hok hR hB hE
  have h2 := fun W (hR : RdN 4 encClm W B A cs) (hB : B ≤ W.heap.size) => refRanges_no lo hi A cs B cap W hm hcm hok hR hB hE
  have h3 := fun W (hR : RdN 4 encClm W B A cs) (hB : B ≤ W.heap.size) => sure_no lo hi A cs B cap W hm hcm hok hR hB hE
  have h4 := fun W (hR : RdN 4 encClm W B A cs) (hB : B ≤ W.heap.size) => refSure_no lo hi A cs B cap W hm hcm hok hR hB hE
  have h5 := fun W (hR : RdN 4 encClm W B A cs) (hB : B ≤ W.heap.size) => least_any lo hi at_ A cs B cap W hm hcm hok hR hB
  have h6 := fun W (hR : RdN 4 encClm W B A cs) (hB : B ≤ W.heap.size) => refLeast_any lo hi at_ A cs B cap W hm hcm hok hR hB
  obtain ⟨E, hEE⟩ : ∃ E, estErr lo hi cs = E := ⟨_, rfl⟩
  obtain ⟨X, Y, hXY⟩ : ∃ x y, leastR lo hi cs at_ = (x, y) := ⟨_, _, rfl⟩
  unfold TruthNo at h1 h2 h3 h4
  rw [hEE] at h1 h2 h3 h4
  rw [hXY] at h5 h6
  simp only at h5 h6
  have H1 := Lib.hid h1
  have H2 := Lib.hid h2
  have H3 := Lib.hid h3
  have H4 := Lib.hid h4
  have H5 := Lib.hid h5
  have H6 := Lib.hid h6
  have HR1 := Lib.hid (hR.below hb0 hB)
  clear h1 h2 h3 h4 h5 h6 hE hEE hXY hR hb0
  go_enter Try.func5, Try.ntmps5
  go_wp2_with fail
  refine (H1.out _ HR1.out (by omega)).mono ?_
  rintro e w1 ⟨rfl, hb1⟩
  have p0 := keepC hb1 p0
  have p1 := keepC hb1 p1
  have p2 := keepC hb1 p2
  have HR2 := Lib.hid (HR1.out.below hb1 (by omega))
  have HB1 := Lib.hid (belowT HB0.out hb1)
  have hz2 := hb1.size
  clear hb1 hW1 HR1
  go_wp2_with fail
  refine (H2.out _ HR2.out (by omega)).mono ?_
  rintro e w2 ⟨rfl, hb2⟩
  have p0 := keepC hb2 p0
  have p1 := keepC hb2 p1
  have p2 := keepC hb2 p2
  have HR3 := Lib.hid (HR2.out.below hb2 (by omega))
  have HB2 := Lib.hid (belowT HB1.out hb2)
  have hz3 := hb2.size
  clear hb2 HR2
  go_wp2_with fail
  refine (spans_same none none [] w2.heap.size 0 0 w2 (by simp) RdN.nil RdN.nil (Nat.le_refl _)).mono ?_
  rintro e w3 ⟨rfl, hb3⟩
  have p0 := keepC hb3 p0
  have p1 := keepC hb3 p1
  have p2 := keepC hb3 p2
  have HR4 := Lib.hid (HR3.out.below hb3 (by omega))
  have HB3 := Lib.hid (belowT HB2.out hb3)
  have hz4 := hb3.size
  clear hb3 HR3
  go_wp2_with fail
  refine (H3.out _ HR4.out (by omega)).mono ?_
  rintro e w4 ⟨rfl, hb4⟩
  have p0 := keepC hb4 p0
  have p1 := keepC hb4 p1
  have p2 := keepC hb4 p2
  have HR5 := Lib.hid (HR4.out.below hb4 (by omega))
  have HB4 := Lib.hid (belowT HB3.out hb4)
  have hz5 := hb4.size
  clear hb4 HR4
  go_wp2_with fail
  refine (H4.out _ HR5.out (by omega)).mono ?_
  rintro e w5 ⟨rfl, hb5⟩
  have p0 := keepC hb5 p0
  have p1 := keepC hb5 p1
  have p2 := keepC hb5 p2
  have HR6 := Lib.hid (HR5.out.below hb5 (by omega))
  have HB5 := Lib.hid (belowT HB4.out hb5)
  have hz6 := hb5.size
  clear hb5 HR5
  go_wp2_with fail
  refine (ints_same none none [] w5.heap.size 0 0 w5 (by simp) Rd1.nil Rd1.nil (Nat.le_refl _)).mono ?_
  rintro e w6 ⟨rfl, hb6⟩
  have p0 := keepC hb6 p0
  have p1 := keepC hb6 p1
  have p2 := keepC hb6 p2
  have HR7 := Lib.hid (HR6.out.below hb6 (by omega))
  have HB6 := Lib.hid (belowT HB5.out hb6)
  have hz7 := hb6.size
  clear hb6 HR6
  go_wp2_with fail
  refine (H5.out _ HR7.out (by omega)).mono ?_
  rintro e w7 ⟨rfl, hb7⟩
  have p0 := keepC hb7 p0
  have p1 := keepC hb7 p1
  have p2 := keepC hb7 p2
  have HR8 := Lib.hid (HR7.out.below hb7 (by omega))
  have HB7 := Lib.hid (belowT HB6.out hb7)
  have hz8 := hb7.size
  clear hb7 HR7
  go_wp2_with fail
  refine (H6.out _ HR8.out (by omega)).mono ?_
  rintro e w8 ⟨rfl, hb8⟩
  have HB8 := Lib.hid (belowT HB7.out hb8)
  clear hb8 HR8 p0 p1 p2
  go_wp2_with fail
  refine (awake_any _).mono ?_
  rintro e w9 ⟨rfl, hb9⟩
  go_wp2
  go_ret
  exact ⟨rfl, belowT HB8.out hb9⟩

set_option maxRecDepth 1000000 in
set_option maxHeartbeats 8000000 in
theorem rangesLaw_yes (lo hi at_ : Int) (A : Option Addr) (cs : List Clm) (B cap : Nat) (w : World) (hm : cs.length ≤ cap) (hcm : cap ≤ maxLen) (hok : ClmsOk cs) (hR : RdN 4 encClm w B A cs) (hB : B ≤ w.heap.size) (hE : estErr lo hi cs = 0) :
    Calls Try.prog 5 #[.agg #[.int .i64 lo, .int .i64 hi, .slice A cs.length cap], .int .i64 at_] w fun e w' => e = .returned (.bool true) ∧ Below w.heap.size w w' := by
  obtain ⟨W1, hW1⟩ : ∃ W1, w.alloc (.cells #[.int .i64 lo, .int .i64 hi, .slice A cs.length cap] 42) = W1 := ⟨_, rfl⟩
  have hb0 : Below w.heap.size w W1 := by rw [← hW1]; exact belowA (belowR _) _
  have p0 : W1.cell? ⟨w.heap.size, 0, none⟩ = some (.int .i64 lo) := by rw [← hW1]; clear hW1; go_simp
  have p1 : W1.cell? ⟨w.heap.size, 1, none⟩ = some (.int .i64 hi) := by rw [← hW1]; clear hW1; go_simp
  have p2 : W1.cell? ⟨w.heap.size, 2, none⟩ = some (.slice A cs.length cap) := by rw [← hW1]; clear hW1; go_simp
  have HB0 := Lib.hid hb0
  have hz1 := hb0.size
  have hle8 := (est_ok hE).len.2
  have h1 := fun W (hR : RdN 4 encClm W B A cs) (hB : B ≤ W.heap.size) => ranges_yes lo hi A cs B cap W hm hcm hok hR hB hE
  have h2 := fun W (hR : RdN 4 encClm W B A cs) (hB : B ≤ W.heap.size) => refRanges_yes lo hi A cs B cap W hm hcm hok hR hB hE
  have h3 := fun W (hR : RdN 4 encClm W B A cs) (hB : B ≤ W.heap.size) => sure_yes lo hi A cs B cap W hm hcm hok hR hB hE
  have h4 := fun W (hR : RdN 4 encClm W B A cs) (hB : B ≤ W.heap.size) => refSure_yes lo hi A cs B cap W hm hcm hok hR hB hE
  have h5 := fun W (hR : RdN 4 encClm W B A cs) (hB : B ≤ W.heap.size) => least_any lo hi at_ A cs B cap W hm hcm hok hR hB
  have h6 := fun W (hR : RdN 4 encClm W B A cs) (hB : B ≤ W.heap.size) => refLeast_any lo hi at_ A cs B cap W hm hcm hok hR hB
  obtain ⟨X, Y, hXY⟩ : ∃ x y, leastR lo hi cs at_ = (x, y) := ⟨_, _, rfl⟩
  unfold RangesYes at h1 h2
  unfold SureYes at h3 h4
  have hrl : (rangesL lo hi (cs.map c3) cs.length).length = cs.length := rangesL_len _ _ _ _
  have hsl : (sureL lo (cs.map c3) cs.length).length ≤ cs.length := by unfold sureL; exact Nat.le_trans (List.length_filter_le _ _) (by simp)
  obtain ⟨RL, hRL⟩ : ∃ l, rangesL lo hi (cs.map c3) cs.length = l := ⟨_, rfl⟩
  obtain ⟨SL, hSL⟩ : ∃ l, sureL lo (cs.map c3) cs.length = l := ⟨_, rfl⟩
  rw [hRL] at h1 h2 hrl
  rw [hSL] at h3 h4 hsl
  rw [hXY] at h5 h6
  simp only at h5 h6
  have H1 := Lib.hid h1
  have H2 := Lib.hid h2
  have H3 := Lib.hid h3
  have H4 := Lib.hid h4
  have H5 := Lib.hid h5
  have H6 := Lib.hid h6
  have HRL := Lib.hid hrl
  have HR1 := Lib.hid (hR.below hb0 hB)
  clear h1 h2 h3 h4 h5 h6 hE hXY hR hb0 hRL hSL hrl
  go_enter Try.func5, Try.ntmps5
  go_wp2_with fail
  refine (H1.out _ HR1.out (by omega)).mono ?_
  rintro e w1 ⟨A1, cap1, rfl, hown1, hb1⟩
  have hrd1 : RdN 2 encSp w1 w1.heap.size A1 RL := by
    have h := hown1
    rw [← HRL.out] at h
    obtain ⟨A', c', e', hrd, _⟩ := own_rdN encSp_len h
    injection e' with e' _ _
    subst e'
    exact hrd
  have p0 := keepC hb1 p0
  have p1 := keepC hb1 p1
  have p2 := keepC hb1 p2
  have HRD1 := Lib.hid hrd1
  have HR2 := Lib.hid (HR1.out.below hb1 (by omega))
  have HB1 := Lib.hid (belowT HB0.out hb1)
  have hz2 := hb1.size
  clear hb1 hW1 HR1 hown1 hrd1
  go_wp2_with fail
  refine (H2.out _ HR2.out (by omega)).mono ?_
  rintro e w2 ⟨A2, cap2, rfl, hown2, hb2⟩
  have hrd2 : RdN 2 encSp w2 w2.heap.size A2 RL := by
    have h := hown2
    rw [← HRL.out] at h
    obtain ⟨A', c', e', hrd, _⟩ := own_rdN encSp_len h
    injection e' with e' _ _
    subst e'
    exact hrd
  have p0 := keepC hb2 p0
  have p1 := keepC hb2 p1
  have p2 := keepC hb2 p2
  have HR3 := Lib.hid (HR2.out.below hb2 (by omega))
  have HB2 := Lib.hid (belowT HB1.out hb2)
  have hz3 := hb2.size
  have hss := spans_same A1 A2 RL w2.heap.size cap1 cap2 w2 (by rw [HRL.out]; omega) (rdN_j HRD1.out hb2) hrd2 (Nat.le_refl _)
  rw [HRL.out] at hss
  have HSS := Lib.hid hss
  clear hb2 HR2 hown2 hrd2 hss HRD1
  go_wp2_with fail
  refine HSS.out.mono ?_
  rintro e w3 ⟨rfl, hb3⟩
  have p0 := keepC hb3 p0
  have p1 := keepC hb3 p1
  have p2 := keepC hb3 p2
  have HR4 := Lib.hid (HR3.out.below hb3 (by omega))
  have HB3 := Lib.hid (belowT HB2.out hb3)
  have hz4 := hb3.size
  clear hb3 HR3 HSS
  go_wp2_with fail
  refine (H3.out _ HR4.out (by omega)).mono ?_
  rintro e w4 ⟨v4, rfl, hown4, hb4⟩
  obtain ⟨A4, cap4, rfl, hrd4, hx4⟩ := own_rd1 hown4
  clear hx4
  have p0 := keepC hb4 p0
  have p1 := keepC hb4 p1
  have p2 := keepC hb4 p2
  have HRD4 := Lib.hid hrd4
  have HR5 := Lib.hid (HR4.out.below hb4 (by omega))
  have HB4 := Lib.hid (belowT HB3.out hb4)
  have hz5 := hb4.size
  clear hb4 HR4 hown4 hrd4
  go_wp2_with fail
  refine (H4.out _ HR5.out (by omega)).mono ?_
  rintro e w5 ⟨v5, rfl, hown5, hb5⟩
  obtain ⟨A5, cap5, rfl, hrd5, hx5⟩ := own_rd1 hown5
  clear hx5
  have p0 := keepC hb5 p0
  have p1 := keepC hb5 p1
  have p2 := keepC hb5 p2
  have HR6 := Lib.hid (HR5.out.below hb5 (by omega))
  have HB5 := Lib.hid (belowT HB4.out hb5)
  have hz6 := hb5.size
  have hnn : ∀ (W : World) (A : Option Addr), Rd1 nv W W.heap.size A SL → Rd1 iv W W.heap.size A (SL.map fun n : Nat => (n : Int)) := fun W A h i x hx => by
    rw [List.getElem?_map] at hx
    cases hs : SL[i]? with
    | none => rw [hs] at hx; simp at hx
    | some n =>
      rw [hs] at hx
      simp only [Option.map_some, Option.some.injEq] at hx
      subst hx
      exact h i n hs
  have hss := ints_same A4 A5 (SL.map fun n : Nat => (n : Int)) w5.heap.size cap4 cap5 w5 (by simp; omega) (hnn _ _ ((HRD4.out.below hb5 (Nat.le_refl _)).more hb5.size)) (hnn _ _ hrd5) (Nat.le_refl _)
  rw [List.length_map] at hss
  have HSS := Lib.hid hss
  clear hb5 HR5 hown5 hrd5 hss HRD4 hnn
  go_wp2_with fail
  refine HSS.out.mono ?_
  rintro e w6 ⟨rfl, hb6⟩
  have p0 := keepC hb6 p0
  have p1 := keepC hb6 p1
  have p2 := keepC hb6 p2
  have HR7 := Lib.hid (HR6.out.below hb6 (by omega))
  have HB6 := Lib.hid (belowT HB5.out hb6)
  have hz7 := hb6.size
  clear hb6 HR6 HSS
  go_wp2_with fail
  refine (H5.out _ HR7.out (by omega)).mono ?_
  rintro e w7 ⟨rfl, hb7⟩
  have p0 := keepC hb7 p0
  have p1 := keepC hb7 p1
  have p2 := keepC hb7 p2
  have HR8 := Lib.hid (HR7.out.below hb7 (by omega))
  have HB7 := Lib.hid (belowT HB6.out hb7)
  have hz8 := hb7.size
  clear hb7 HR7
  go_wp2_with fail
  refine (H6.out _ HR8.out (by omega)).mono ?_
  rintro e w8 ⟨rfl, hb8⟩
  have HB8 := Lib.hid (belowT HB7.out hb8)
  clear hb8 HR8 p0 p1 p2
  go_wp2_with fail
  refine (awake_any _).mono ?_
  rintro e w9 ⟨rfl, hb9⟩
  go_wp2
  go_ret
  exact ⟨rfl, belowT HB8.out hb9⟩

theorem rangesLaw_any (lo hi at_ : Int) (A : Option Addr) (cs : List Clm) (B cap : Nat) (w : World) (hm : cs.length ≤ cap) (hcm : cap ≤ maxLen) (hok : ClmsOk cs) (hR : RdN 4 encClm w B A cs) (hB : B ≤ w.heap.size) :
    Calls Try.prog 5 #[.agg #[.int .i64 lo, .int .i64 hi, .slice A cs.length cap], .int .i64 at_] w fun e w' => e = .returned (.bool true) ∧ Below w.heap.size w w' := by
  by_cases hE : estErr lo hi cs = 0
  · exact rangesLaw_yes lo hi at_ A cs B cap w hm hcm hok hR hB hE
  · exact rangesLaw_no lo hi at_ A cs B cap w hm hcm hok hR hB hE
end Go.Proofs.Ytblbbhenmhkknaa
