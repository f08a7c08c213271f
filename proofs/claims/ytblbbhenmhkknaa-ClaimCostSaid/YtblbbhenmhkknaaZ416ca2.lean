/- ClaimCost: the walk's short branches. ClaimCost: the walk, where the estate or the further claim has an error. -/
import Derived.Deep.DeepCutAuto
import Derived.Test.YtblbbhenmhkknaaYL5
import Derived.Test.YtblbbhenmhkknaaZb9a413
import Derived.Test.YtblbbhenmhkknaaYR4
namespace Go.Proofs.Ytblbbhenmhkknaa
open Go.RowKit

theorem cost_no (lo hi : Int) (A D : Option Addr) (cs : List Clm) (B cap capD : Nat) (P : Int) (ds : List Int) (f : Clm) (w : World) (hm : cs.length ≤ cap) (hcm : cap ≤ maxLen) (hok : ClmsOk cs) (hfs : f.name.size ≤ maxLen) (hR : RdN 4 encClm w B A cs) (hB : B ≤ w.heap.size) (hD : Rd1 iv w B D ds) (hE : furtherE lo hi cs P ds f ≠ 0) :
    Calls Try.prog 30 #[.agg #[.int .i64 lo, .int .i64 hi, .slice A cs.length cap], .agg #[.int .i64 P, .slice D ds.length capD], .agg #[.string f.name, .int .i64 f.rank, .int .i64 f.lo, .int .i64 f.hi]] w (TruthNo (furtherE lo hi cs P ds f) w) := by
  by_cases h1 : truthE lo hi cs P ds = 0
  · by_cases h8 : cs.length = 8
    · have e : furtherE lo hi cs P ds f = 3 := by unfold furtherE; rw [if_pos h1, if_pos h8]
      rw [e]
      exact cost_eight lo hi A D cs B cap capD P ds f w hm hcm hok hR hB hD h1 h8
    · by_cases ht : toldE cs f = 0
      · by_cases hl : f.lo = f.hi
        · exact absurd (by unfold furtherE; rw [if_pos h1, if_neg h8, if_pos ht, if_pos hl]) hE
        · have e : furtherE lo hi cs P ds f = 2 := by unfold furtherE; rw [if_pos h1, if_neg h8, if_pos ht, if_neg hl]
          rw [e]
          exact cost_arg lo hi A D cs B cap capD P ds f w hm hcm hok hfs hR hB hD h1 h8 ht hl
      · have e : furtherE lo hi cs P ds f = toldE cs f := by unfold furtherE; rw [if_pos h1, if_neg h8, if_neg ht]
        rw [e]
        exact cost_told lo hi A D cs B cap capD P ds f w hm hcm hok hfs hR hB hD h1 h8 ht
  · have e : furtherE lo hi cs P ds f = truthE lo hi cs P ds := by unfold furtherE; rw [if_neg h1]
    rw [e]
    exact cost_bad lo hi A D cs B cap capD P ds f w hm hcm hok hR hB hD h1
end Go.Proofs.Ytblbbhenmhkknaa

namespace Go.Proofs.Ytblbbhenmhkknaa
open Go.RowKit

set_option maxRecDepth 1000000 in
set_option maxHeartbeats 4000000 in
theorem costLaw_no1 (lo hi : Int) (A U : Option Addr) (cs : List Clm) (us : List Int) (B cap capU : Nat) (f : Clm) (w : World) (hm : cs.length ≤ cap) (hcm : cap ≤ maxLen) (hok : ClmsOk cs) (hR : RdN 4 encClm w B A cs) (hB : B ≤ w.heap.size) (hb : rightB lo hi cs = false) :
    Calls Try.prog 15 #[.agg #[.int .i64 lo, .int .i64 hi, .slice A cs.length cap], .agg #[.string f.name, .int .i64 f.rank, .int .i64 f.lo, .int .i64 f.hi], .slice U us.length capU] w fun e w' => e = .returned (.bool true) ∧ Below w.heap.size w w' := by
  obtain ⟨W1, hW1⟩ : ∃ W1, (w.alloc (.cells #[.int .i64 lo, .int .i64 hi, .slice A cs.length cap] 42)).alloc (.cells #[.string f.name, .int .i64 f.rank, .int .i64 f.lo, .int .i64 f.hi] 46) = W1 := ⟨_, rfl⟩
  have hb0 : Below w.heap.size w W1 := by rw [← hW1]; exact belowA (belowA (belowR _) _) _
  have p0 : W1.cell? ⟨w.heap.size, 0, none⟩ = some (.int .i64 lo) := by rw [← hW1]; clear hW1; go_simp
  have p1 : W1.cell? ⟨w.heap.size, 1, none⟩ = some (.int .i64 hi) := by rw [← hW1]; clear hW1; go_simp
  have p2 : W1.cell? ⟨w.heap.size, 2, none⟩ = some (.slice A cs.length cap) := by rw [← hW1]; clear hW1; go_simp
  have HB0 := Lib.hid hb0
  have hz1 := hb0.size
  have hRr := right_any lo hi A cs B cap W1 hm hcm hok (hR.below hb0 hB) (by omega)
  rw [hb] at hRr
  have HRR := Lib.hid hRr
  clear hRr hb hR hb0
  go_enter Try.func15, Try.ntmps15
  go_wp2_with fail
  refine HRR.out.mono ?_
  rintro e w1 ⟨rfl, hb1⟩
  have HB1 := Lib.hid hb1
  clear hb1
  go_wp2_with fail
  refine (awake_any _).mono ?_
  rintro e w2 ⟨rfl, hb2⟩
  go_wp2
  go_ret
  exact ⟨rfl, belowT (belowT HB0.out HB1.out) hb2⟩

set_option maxRecDepth 1000000 in
set_option maxHeartbeats 4000000 in
theorem costLaw_no2 (lo hi : Int) (A U : Option Addr) (cs : List Clm) (us : List Int) (B cap capU : Nat) (f : Clm) (w : World) (hm : cs.length ≤ cap) (hcm : cap ≤ maxLen) (hok : ClmsOk cs) (hfs : f.name.size ≤ maxLen) (hR : RdN 4 encClm w B A cs) (hB : B ≤ w.heap.size)
    (hU : Rd1 uv w B U us) (hul : us.length ≤ maxLen) (hub : ∀ x ∈ us, 0 ≤ x ∧ x ≤ 4294967295) (hb : rightB lo hi cs = true) (hF : furtherE lo hi cs (anyP lo hi us) (anyD cs us cs.length) f ≠ 0) :
    Calls Try.prog 15 #[.agg #[.int .i64 lo, .int .i64 hi, .slice A cs.length cap], .agg #[.string f.name, .int .i64 f.rank, .int .i64 f.lo, .int .i64 f.hi], .slice U us.length capU] w fun e w' => e = .returned (.bool true) ∧ Below w.heap.size w w' := by
  obtain ⟨W1, hW1⟩ : ∃ W1, (w.alloc (.cells #[.int .i64 lo, .int .i64 hi, .slice A cs.length cap] 42)).alloc (.cells #[.string f.name, .int .i64 f.rank, .int .i64 f.lo, .int .i64 f.hi] 46) = W1 := ⟨_, rfl⟩
  have hb0 : Below w.heap.size w W1 := by rw [← hW1]; exact belowA (belowA (belowR _) _) _
  have p0 : W1.cell? ⟨w.heap.size, 0, none⟩ = some (.int .i64 lo) := by rw [← hW1]; clear hW1; go_simp
  have p1 : W1.cell? ⟨w.heap.size, 1, none⟩ = some (.int .i64 hi) := by rw [← hW1]; clear hW1; go_simp
  have p2 : W1.cell? ⟨w.heap.size, 2, none⟩ = some (.slice A cs.length cap) := by rw [← hW1]; clear hW1; go_simp
  have q0 : W1.cell? ⟨w.heap.size + 1, 0, none⟩ = some (.string f.name) := by rw [← hW1]; clear hW1; go_simp
  have q1 : W1.cell? ⟨w.heap.size + 1, 1, none⟩ = some (.int .i64 f.rank) := by rw [← hW1]; clear hW1; go_simp
  have q2 : W1.cell? ⟨w.heap.size + 1, 2, none⟩ = some (.int .i64 f.lo) := by rw [← hW1]; clear hW1; go_simp
  have q3 : W1.cell? ⟨w.heap.size + 1, 3, none⟩ = some (.int .i64 f.hi) := by rw [← hW1]; clear hW1; go_simp
  have HB0 := Lib.hid hb0
  have hz1 : w.heap.size + 1 < W1.heap.size := lt_of_cell q0
  have hRr := right_any lo hi A cs B cap W1 hm hcm hok (hR.below hb0 hB) (by omega)
  rw [hb] at hRr
  have HR := Lib.hid (hR.below hb0 hB)
  have HU := Lib.hid (hU.below hb0 hB)
  have hE : estErr lo hi cs = 0 := by simpa [rightB] using hb
  have hest := est_ok hE
  have hle8 := hest.len.2
  obtain ⟨P, hP⟩ : ∃ P, anyP lo hi us = P := ⟨_, rfl⟩
  obtain ⟨ds, hds⟩ : ∃ ds, anyD cs us cs.length = ds := ⟨_, rfl⟩
  have hdl : ds.length = cs.length := by rw [← hds]; exact anyD_len _ _ _
  have hany := fun W (hR : RdN 4 encClm W B A cs) (hB : B ≤ W.heap.size) (hU : Rd1 uv W B U us) => any_any lo hi A U cs us B cap capU W hR hB hU hul hub hE
  unfold AnyPost at hany
  rw [hP, hds] at hF hany
  have hno := fun W A2 cap2 (hR : RdN 4 encClm W W.heap.size A cs) (hD : Rd1 iv W W.heap.size A2 ds) => cost_no lo hi A A2 cs W.heap.size cap cap2 P ds f W hm hcm hok hfs hR (Nat.le_refl _) hD hF
  have hfu := fun W A2 cap2 (hR : RdN 4 encClm W W.heap.size A cs) (hD : Rd1 iv W W.heap.size A2 ds) => refFurther_any lo hi A A2 cs W.heap.size cap cap2 P ds f W hm hcm hok hfs hR (Nat.le_refl _) hD (by unfold maxLen; omega)
  rw [hdl] at hno hfu
  unfold TruthNo at hno
  obtain ⟨E, hEE⟩ : ∃ E, furtherE lo hi cs P ds f = E := ⟨_, rfl⟩
  rw [hEE] at hF hno hfu
  have hne : (E != 0) = true := by simpa using hF
  have HRR := Lib.hid hRr
  have HANY := Lib.hid hany
  have HNO := Lib.hid hno
  have HFU := Lib.hid hfu
  have HDL := Lib.hid hdl
  clear hRr hb hest hany hno hfu hdl hE hP hds hF hEE hR hU hb0
  go_enter Try.func15, Try.ntmps15
  go_wp2_with fail
  refine HRR.out.mono ?_
  rintro e w1 ⟨rfl, hb1⟩
  have s0 := keepC hb1 p0
  have s1 := keepC hb1 p1
  have s2 := keepC hb1 p2
  have v0 := keepC hb1 q0
  have v1 := keepC hb1 q1
  have v2 := keepC hb1 q2
  have v3 := keepC hb1 q3
  have hz2 := hb1.size
  have HB1 := Lib.hid hb1
  clear hb1 p0 p1 p2 q0 q1 q2 q3 HRR hW1
  go_wp2_with fail
  refine (HANY.out _ (HR.out.below HB1.out (by omega)) (by omega) (HU.out.below HB1.out (by omega))).mono ?_
  rintro e w2 ⟨A2, cap2, rfl, hown2, hb2⟩
  have r0 := keepC hb2 s0
  have r1 := keepC hb2 s1
  have r2 := keepC hb2 s2
  have u0 := keepC hb2 v0
  have u1 := keepC hb2 v1
  have u2 := keepC hb2 v2
  have u3 := keepC hb2 v3
  have hz3 := hb2.size
  have HD2 := Lib.hid (own_rd1' hown2 HDL.out)
  have HB2 := Lib.hid (belowT HB1.out hb2)
  clear hb2 hown2 s0 s1 s2 v0 v1 v2 v3 HB1 HANY
  obtain ⟨W3, hW3⟩ : ∃ W, w2.alloc (.cells #[.int .i64 P, .slice A2 cs.length cap2] 44) = W := ⟨_, rfl⟩
  have hb23 : Below w2.heap.size w2 W3 := by rw [← hW3]; exact belowA (belowR _) _
  have t0 : W3.cell? ⟨w2.heap.size, 0, none⟩ = some (.int .i64 P) := by rw [← hW3]; clear hW3; go_simp
  have t1 : W3.cell? ⟨w2.heap.size, 1, none⟩ = some (.slice A2 cs.length cap2) := by rw [← hW3]; clear hW3; go_simp
  have r0 := keepC hb23 r0
  have r1 := keepC hb23 r1
  have r2 := keepC hb23 r2
  have u0 := keepC hb23 u0
  have u1 := keepC hb23 u1
  have u2 := keepC hb23 u2
  have u3 := keepC hb23 u3
  have hz4 := hb23.size
  have HD3 := Lib.hid ((HD2.out.below hb23 (Nat.le_refl _)).more hb23.size)
  have HR3 := Lib.hid (((HR.out.below HB2.out (by omega)).below hb23 (by omega)).more (show B ≤ W3.heap.size by omega))
  have HB3 := Lib.hid (belowT HB2.out hb23)
  clear hb23 HD2 HB2 HR HU
  go_upto_region 4 with fail
  clear hW3
  go_wp2_with fail
  refine (HNO.out W3 A2 cap2 HR3.out HD3.out).mono ?_
  rintro e w4 ⟨rfl, hb4⟩
  have r0 := keepC hb4 r0
  have r1 := keepC hb4 r1
  have r2 := keepC hb4 r2
  have u0 := keepC hb4 u0
  have u1 := keepC hb4 u1
  have u2 := keepC hb4 u2
  have u3 := keepC hb4 u3
  have t0 := keepC hb4 t0
  have t1 := keepC hb4 t1
  have HB4 := Lib.hid hb4
  clear hb4
  go_wp2_with fail
  refine (HFU.out w4 A2 cap2 (rdN_j HR3.out HB4.out) ((HD3.out.below HB4.out (Nat.le_refl _)).more HB4.out.size)).mono ?_
  rintro e w5 ⟨rfl, hb5⟩
  have HB5 := Lib.hid (belowT (belowT (belowT HB0.out HB3.out) HB4.out) hb5)
  clear hb5 r0 r1 r2 u0 u1 u2 u3 t0 t1
  go_wp2_with fail
  refine (awake_any _).mono ?_
  rintro e w6 ⟨rfl, hb6⟩
  go_wp2
  go_ret
  exact ⟨rfl, belowT HB5.out hb6⟩
end Go.Proofs.Ytblbbhenmhkknaa
