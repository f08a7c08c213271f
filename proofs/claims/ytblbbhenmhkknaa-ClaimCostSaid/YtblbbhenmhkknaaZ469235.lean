/- ClaimCost: the walk, where the further claim is right. ClaimCost: the law's function, whole. -/
import Derived.Deep.DeepCutAuto
import Derived.Deep.RegionHeld3
import Derived.Test.YtblbbhenmhkknaaYC8
import Derived.Test.YtblbbhenmhkknaaZ416ca2
namespace Go.Proofs.Ytblbbhenmhkknaa
open Go.RowKit

theorem take_sumC {l : List Int} {k : Nat} {x : Int} (h : l[k]? = some x) : (l.take (k + 1)).sum = (l.take k).sum + x := by
  obtain ⟨hk, rfl⟩ := List.getElem?_eq_some_iff.1 h
  rw [List.take_succ_eq_append_getElem hk, List.sum_append]; simp
theorem pays_snoc {w : World} {base8 base9 g8 cap8 g9 cap9 : Nat} {lo hi : Int} {cs : List Clm} {P : Int} {ds : List Int} {f : Clm} (h8 : w.ownsRow base8 46 4 (.slice (some ⟨g8, 0, none⟩) (cs.length + 1) cap8) (cs.length + 1) (cs.flatMap encClm ++ [.string f.name, iv f.rank, iv f.lo, iv f.hi])) (h9 : w.ownsRow base9 3 1 (.slice (some ⟨g9, 0, none⟩) (cs.length + 1) cap9) (cs.length + 1) (ds.map iv ++ [iv f.lo])) (hok : ClmsOk cs) (hfs : f.name.size ≤ maxLen) (ht : TruthOk lo hi cs P ds) (hn8 : cs.length ≠ 8) (hT : toldE cs f = 0) (hl : f.lo = f.hi) :
    Calls Try.prog 28 #[.agg #[.int .i64 lo, .int .i64 hi, .slice (some ⟨g8, 0, none⟩) (cs.length + 1) cap8], .agg #[.int .i64 P, .slice (some ⟨g9, 0, none⟩) (cs.length + 1) cap9]] w fun e w' => ∃ A c2, e = .returned (.tuple #[.slice A (cs.length + 1) c2, iv (P - (pays (jlF cs ds f) P).sum), iv 0]) ∧ w'.ownsRow w.heap.size 3 1 (.slice A (cs.length + 1) c2) (cs.length + 1) ((pays (jlF cs ds f) P).map iv) ∧ Below w.heap.size w w' := by
  have e8 : cs.flatMap encClm ++ [.string f.name, iv f.rank, iv f.lo, iv f.hi] = (cs ++ [f]).flatMap encClm := by rw [List.flatMap_append]; rfl
  have e9 : ds.map iv ++ [iv f.lo] = (ds ++ [f.lo]).map iv := by rw [List.map_append]; rfl
  have l8 : (cs ++ [f]).length = cs.length + 1 := by simp
  have l9 : (ds ++ [f.lo]).length = cs.length + 1 := by simp [ht.len]
  rw [e8, ← l8] at h8
  rw [e9] at h9
  obtain ⟨A, cap2, e2, hrd, _, hc1, hc2⟩ := own_rdN enc4_len h8
  injection e2 with e21 e22 e23
  subst e21 e23
  have hD := own_rd1' h9 l9
  have h := pays_yes lo hi (some ⟨g8, 0, none⟩) (some ⟨g9, 0, none⟩) (cs ++ [f]) w.heap.size cap8 cap9 P (ds ++ [f.lo]) w hc1 hc2 (clms_snoc hok hfs) hrd (Nat.le_refl _) hD (truthE_mk (truth_snoc ht hn8 hT hl))
  unfold PaysYes at h
  rw [jl_snoc ht.len hl, l8, l9] at h
  exact h

set_option maxRecDepth 1000000 in
set_option maxHeartbeats 8000000 in
theorem costLaw_yes (lo hi : Int) (A U : Option Addr) (cs : List Clm) (us : List Int) (B cap capU : Nat) (f : Clm) (w : World) (hm : cs.length ≤ cap) (hcm : cap ≤ maxLen) (hok : ClmsOk cs) (hfs : f.name.size ≤ maxLen) (hR : RdN 4 encClm w B A cs) (hB : B ≤ w.heap.size)
    (hU : Rd1 uv w B U us) (hul : us.length ≤ maxLen) (hub : ∀ x ∈ us, 0 ≤ x ∧ x ≤ 4294967295) (hb : rightB lo hi cs = true) (hF : furtherE lo hi cs (anyP lo hi us) (anyD cs us cs.length) f = 0) :
    Calls Try.prog 15 #[.agg #[.int .i64 lo, .int .i64 hi, .slice A cs.length cap], .agg #[.string f.name, .int .i64 f.rank, .int .i64 f.lo, .int .i64 f.hi], .slice U us.length capU] w fun e w' => e = .returned (.bool true) ∧ Below w.heap.size w w' := by
  obtain ⟨i3, hi3, hz30, hz31, hz32⟩ := info_parts Try.info3
  obtain ⟨i4, hi4, hz40, hz41, hz42⟩ := info_parts Try.info46
  obtain ⟨W1, hW1⟩ : ∃ W1, (w.alloc (.cells #[.int .i64 lo, .int .i64 hi, .slice A cs.length cap] 42)).alloc (.cells #[.string f.name, .int .i64 f.rank, .int .i64 f.lo, .int .i64 f.hi] 46) = W1 := ⟨_, rfl⟩
  have hb0 : Below w.heap.size w W1 := by rw [← hW1]; exact belowA (belowA (belowR _) _) _
  have p0 : W1.cell? ⟨w.heap.size, 0, none⟩ = some (.int .i64 lo) := by rw [← hW1]; clear hW1; go_simp
  have p1 : W1.cell? ⟨w.heap.size, 1, none⟩ = some (.int .i64 hi) := by rw [← hW1]; clear hW1; go_simp
  have p2 : W1.cell? ⟨w.heap.size, 2, none⟩ = some (.slice A cs.length cap) := by rw [← hW1]; clear hW1; go_simp
  have q0 : W1.cell? ⟨w.heap.size + 1, 0, none⟩ = some (.string f.name) := by rw [← hW1]; clear hW1; go_simp
  have q1 : W1.cell? ⟨w.heap.size + 1, 1, none⟩ = some (.int .i64 f.rank) := by rw [← hW1]; clear hW1; go_simp
  have q2 : W1.cell? ⟨w.heap.size + 1, 2, none⟩ = some (.int .i64 f.lo) := by rw [← hW1]; clear hW1; go_simp
  have q3 : W1.cell? ⟨w.heap.size + 1, 3, none⟩ = some (.int .i64 f.hi) := by rw [← hW1]; clear hW1; go_simp
  have HB0 := Lib.hid hb0
  have hz1 : w.heap.size + 1 < W1.heap.size := lt_of_cell q0
  have hRr := right_any lo hi A cs B cap W1 hm hcm hok (hR.below hb0 hB) (by omega)
  rw [hb] at hRr
  have HR := Lib.hid (hR.below hb0 hB)
  have HU := Lib.hid (hU.below hb0 hB)
  have hE : estErr lo hi cs = 0 := by simpa [rightB] using hb
  have hest := est_ok hE
  have hge1 := hest.len.1
  obtain ⟨P, hP⟩ : ∃ P, anyP lo hi us = P := ⟨_, rfl⟩
  obtain ⟨ds, hds⟩ : ∃ ds, anyD cs us cs.length = ds := ⟨_, rfl⟩
  have hdl : ds.length = cs.length := by rw [← hds]; exact anyD_len _ _ _
  have hany := fun W (hR : RdN 4 encClm W B A cs) (hB : B ≤ W.heap.size) (hU : Rd1 uv W B U us) => any_any lo hi A U cs us B cap capU W hR hB hU hul hub hE
  unfold AnyPost at hany
  rw [hP, hds] at hF hany
  obtain ⟨htr, hn8, hT, hlh⟩ := furtherE_ok hF
  have hto := (truthE_ok htr).1
  have hle7 : cs.length ≤ 7 := by have := hest.len.2; omega
  have hk9 : 0 + cs.length ≤ maxLen := by unfold maxLen; omega
  have hk9b : cs.length + 1 ≤ maxLen := by unfold maxLen; omega
  have hk40 : (0 + cs.length) * 40 ≤ 140737488355328 := by omega
  have hk40b : (cs.length + 1) * 40 ≤ 140737488355328 := by omega
  have hk8 : (0 + cs.length) * 8 ≤ 140737488355328 := by omega
  have hk8b : (cs.length + 1) * 8 ≤ 140737488355328 := by omega
  have hcost := fun W A2 cap2 (hR : RdN 4 encClm W W.heap.size A cs) (hD : Rd1 iv W W.heap.size A2 ds) => cost_yes lo hi A A2 cs W.heap.size cap cap2 P ds f W hm hcm hok hfs hR (Nat.le_refl _) hD htr hn8 hT hlh
  have hfu := fun W A2 cap2 (hR : RdN 4 encClm W W.heap.size A cs) (hD : Rd1 iv W W.heap.size A2 ds) => refFurther_any lo hi A A2 cs W.heap.size cap cap2 P ds f W hm hcm hok hfs hR (Nat.le_refl _) hD (by unfold maxLen; omega)
  have hpA := fun W A2 cap2 (hR : RdN 4 encClm W W.heap.size A cs) (hD : Rd1 iv W W.heap.size A2 ds) => pays_yes lo hi A A2 cs W.heap.size cap cap2 P ds W hm hcm hok hR (Nat.le_refl _) hD htr
  have hpB := fun W base8 base9 g8 cap8 g9 cap9 h8 h9 => pays_snoc (w := W) (base8 := base8) (base9 := base9) (g8 := g8) (cap8 := cap8) (g9 := g9) (cap9 := cap9) h8 h9 hok hfs hto hn8 hT hlh
  rw [hdl] at hcost hfu hpA
  rw [hF] at hfu
  unfold CostYes at hcost
  unfold PaysYes at hpA
  have hf0 : 0 ≤ f.lo := by have := toldE_ok hT; omega
  have hf9 : f.lo ≤ 1000000000 := by have := toldE_ok hT; omega
  -- the facts of each index
  have hrow : ∀ i, i < cs.length → ∃ c x y, cs[i]? = some c ∧ (pays (jl cs ds) P)[i]? = some x ∧ (pays (jlF cs ds f) P)[i]? = some y ∧ (costL cs P ds f)[i]? = some (x - y) ∧ 0 ≤ x - y ∧ (0 < x - y → ¬ c.rank < f.rank) ∧ 0 ≤ x ∧ x ≤ 1000000000 ∧ 0 ≤ y ∧ y ≤ 1000000000 := fun i hi => by
    obtain ⟨c, hc⟩ : ∃ c, cs[i]? = some c := ⟨_, List.getElem?_eq_getElem hi⟩
    obtain ⟨d, hd⟩ : ∃ d, ds[i]? = some d := ⟨_, List.getElem?_eq_getElem (by omega)⟩
    obtain ⟨x, y, h1, h2, h3, h4, h5⟩ := cost_facts hto hf0 hc hd
    obtain ⟨x', hx', hx0, hx9⟩ := pays_at (P := P) hto.ok3 (k := i) (by rw [jl_len]; exact hi)
    obtain ⟨y', hy', hy0, hy9⟩ := pays_at (P := P) (jlF_ok hto hT) (k := i) (by rw [jlF_len]; omega)
    rw [h1] at hx'
    rw [h2] at hy'
    injection hx' with hx'
    injection hy' with hy'
    subst hx' hy'
    exact ⟨c, x, y, hc, h1, h2, h3, h4, h5, hx0, hx9, hy0, hy9⟩
  have hjl : (jlF cs ds f)[cs.length]? = some ⟨f.rank, f.lo, f.hi⟩ := by
    unfold jlF
    rw [List.getElem?_append_right (by rw [jl_len]; exact Nat.le_refl _), jl_len, Nat.sub_self]; rfl
  have hlast := pays_get (P := P) hjl
  have hlb := payAt_bound (P := P) (jlF_ok hto hT) (List.mem_of_getElem? hjl)
  have hsum := cost_sum (cs := cs) (P := P) (ds := ds) (f := f)
  have hP0 : 0 ≤ P := by have := hest.span; have := hto.pro; omega
  have hP9 : P ≤ 1000000000 := by have := hest.span; have := hto.pro; omega
  have htA := pays_total (l := jl cs ds) hto.ok3 hP0
  have htB := pays_total (l := jlF cs ds f) (jlF_ok hto hT) hP0
  obtain ⟨YL, hYL⟩ : ∃ y, payAt (jlF cs ds f) P ⟨f.rank, f.lo, f.hi⟩ = y := ⟨_, rfl⟩
  rw [hYL] at hlast hlb hsum
  have hla : (pays (jl cs ds) P).length = cs.length := by rw [pays_len, jl_len]
  have hlbb : (pays (jlF cs ds f) P).length = cs.length + 1 := by rw [pays_len, jlF_len]
  have hlc : (costL cs P ds f).length = cs.length := costL_len cs P ds f
  obtain ⟨PA, hPA⟩ : ∃ l, pays (jl cs ds) P = l := ⟨_, rfl⟩
  obtain ⟨PB, hPB⟩ : ∃ l, pays (jlF cs ds f) P = l := ⟨_, rfl⟩
  obtain ⟨CL, hCL⟩ : ∃ l, costL cs P ds f = l := ⟨_, rfl⟩
  rw [hPA] at hrow hpA hla hsum htA
  rw [hPB] at hrow hpB hlbb hsum htB hlast
  rw [hCL] at hrow hcost hlc hsum
  obtain ⟨RA, hRA⟩ : ∃ r, P - PA.sum = r := ⟨_, rfl⟩
  obtain ⟨RB, hRB⟩ : ∃ r, P - PB.sum = r := ⟨_, rfl⟩
  rw [hRA] at hpA hsum
  rw [hRB] at hpB hsum
  have hRA0 : 0 ≤ RA := by have := htA.1; omega
  have hRB0 : 0 ≤ RB := by have := htB.1; omega
  have hCLb : ∀ k, 0 ≤ (CL.take k).sum ∧ (CL.take k).sum ≤ 9000000000 := fun k => by
    have hb := sum_bound (l := CL.take k) (b := 1000000000) (fun x hx => by
      obtain ⟨j, hj⟩ := List.getElem?_of_mem (List.mem_of_mem_take hx)
      have hjl : j < cs.length := by have := (List.getElem?_eq_some_iff.1 hj).1; omega
      obtain ⟨c, x', y', _, _, _, h3, h4, _, h5, h6, h7, h8⟩ := hrow j hjl
      rw [h3] at hj
      injection hj with hj
      omega)
    have hl : (CL.take k).length ≤ 8 := by rw [List.length_take]; omega
    omega
  have hPAb : 0 ≤ PA.sum := (sum_bound (l := PA) (b := 1000000000) (fun x hx => by
      obtain ⟨j, hj⟩ := List.getElem?_of_mem hx
      have hjl : j < cs.length := by have := (List.getElem?_eq_some_iff.1 hj).1; omega
      obtain ⟨c, x', y', _, h2, _, _, _, _, h5, h6, _, _⟩ := hrow j hjl
      rw [h2] at hj
      injection hj with hj
      omega)).1
  have hPBb : 0 ≤ PB.sum := (sum_bound (l := PB) (b := 1000000000) (fun x hx => by
      obtain ⟨j, hj⟩ := List.getElem?_of_mem hx
      have hjl : j < cs.length + 1 := by have := (List.getElem?_eq_some_iff.1 hj).1; omega
      rcases Nat.lt_or_ge j cs.length with hjl2 | hjl2
      · obtain ⟨c, x', y', _, _, h3, _, _, _, _, _, h7, h8⟩ := hrow j hjl2
        rw [h3] at hj
        injection hj with hj
        omega
      · obtain rfl : j = cs.length := by omega
        rw [hlast] at hj
        injection hj with hj
        have := hlb.1; have := hlb.2
        simp only at *
        omega)).1
  have hRA9 : RA ≤ 1000000000 := by omega
  have hRB9 : RB ≤ 1000000000 := by omega
  have hYL0 : 0 ≤ YL := hlb.1
  have hYL9 : YL ≤ 1000000000 := by have := hlb.2; simp only at this; omega
  have HRR := Lib.hid hRr
  have HANY := Lib.hid hany
  have HCOST := Lib.hid hcost
  have HFU := Lib.hid hfu
  have HPA := Lib.hid hpA
  have HPB := Lib.hid hpB
  have HDL := Lib.hid hdl
  have HLA := Lib.hid hla
  have HLB := Lib.hid hlbb
  have HLC := Lib.hid hlc
  have HROW := Lib.hid hrow
  have HCLB := Lib.hid hCLb
  have HSUM := Lib.hid hsum
  have HLAST := Lib.hid hlast
  clear hRr hb hest hany hcost hfu hdl hE hP hds hF hR hU hb0 htr hT hto hlh hpA hpB hrow hjl hlb htA htB hYL hla hlbb hlc hPA hPB hCL hRA hRB hCLb hPAb hPBb hsum hlast hn8
  go_enter Try.func15, Try.ntmps15
  go_wp2_with fail
  refine HRR.out.mono ?_
  rintro e w1 ⟨rfl, hb1⟩
  have s0 := keepC hb1 p0
  have s1 := keepC hb1 p1
  have s2 := keepC hb1 p2
  have v0 := keepC hb1 q0
  have v1 := keepC hb1 q1
  have v2 := keepC hb1 q2
  have v3 := keepC hb1 q3
  have hz2 := hb1.size
  have HB1 := Lib.hid hb1
  clear hb1 p0 p1 p2 q0 q1 q2 q3 HRR hW1
  go_wp2_with fail
  refine (HANY.out _ (HR.out.below HB1.out (by omega)) (by omega) (HU.out.below HB1.out (by omega))).mono ?_
  rintro e w2 ⟨A2, cap2, rfl, hown2, hb2⟩
  have r0 := keepC hb2 s0
  have r1 := keepC hb2 s1
  have r2 := keepC hb2 s2
  have u0 := keepC hb2 v0
  have u1 := keepC hb2 v1
  have u2 := keepC hb2 v2
  have u3 := keepC hb2 v3
  have hz3 := hb2.size
  have HD2 := Lib.hid (own_rd1' hown2 HDL.out)
  have HB2 := Lib.hid (belowT HB1.out hb2)
  clear hb2 hown2 s0 s1 s2 v0 v1 v2 v3 HB1 HANY
  obtain ⟨W3, hW3⟩ : ∃ W, w2.alloc (.cells #[.int .i64 P, .slice A2 cs.length cap2] 44) = W := ⟨_, rfl⟩
  have hb23 : Below w2.heap.size w2 W3 := by rw [← hW3]; exact belowA (belowR _) _
  have t0 : W3.cell? ⟨w2.heap.size, 0, none⟩ = some (.int .i64 P) := by rw [← hW3]; clear hW3; go_simp
  have t1 : W3.cell? ⟨w2.heap.size, 1, none⟩ = some (.slice A2 cs.length cap2) := by rw [← hW3]; clear hW3; go_simp
  have r0 := keepC hb23 r0
  have r1 := keepC hb23 r1
  have r2 := keepC hb23 r2
  have u0 := keepC hb23 u0
  have u1 := keepC hb23 u1
  have u2 := keepC hb23 u2
  have u3 := keepC hb23 u3
  have hz4 : w2.heap.size < W3.heap.size := lt_of_cell t0
  have HD3 := Lib.hid ((HD2.out.below hb23 (Nat.le_refl _)).more hb23.size)
  have HR3 := Lib.hid (((HR.out.below HB2.out (by omega)).below hb23 (by omega)).more (show B ≤ W3.heap.size by omega))
  have HB3 := Lib.hid (belowT HB2.out hb23)
  clear hb23 HD2 HB2 HR HU
  go_upto_region 4 with fail
  clear hW3
  go_wp2_with fail
  refine (HCOST.out W3 A2 cap2 HR3.out HD3.out).mono ?_
  rintro e w4 ⟨A4, cap4, rfl, hown4, hb4⟩
  have r0 := keepC hb4 r0
  have r1 := keepC hb4 r1
  have r2 := keepC hb4 r2
  have u0 := keepC hb4 u0
  have u1 := keepC hb4 u1
  have u2 := keepC hb4 u2
  have u3 := keepC hb4 u3
  have t0 := keepC hb4 t0
  have t1 := keepC hb4 t1
  have hz5 := hb4.size
  have HC4 := Lib.hid (own_rd1' hown4 HLC.out)
  have HB4 := Lib.hid hb4
  clear hb4 hown4
  go_wp2_with fail
  refine (HFU.out w4 A2 cap2 (rdN_j HR3.out HB4.out) ((HD3.out.below HB4.out (Nat.le_refl _)).more HB4.out.size)).mono ?_
  rintro e w5 ⟨rfl, hb5⟩
  have r0 := keepC hb5 r0
  have r1 := keepC hb5 r1
  have r2 := keepC hb5 r2
  have u0 := keepC hb5 u0
  have u1 := keepC hb5 u1
  have u2 := keepC hb5 u2
  have u3 := keepC hb5 u3
  have t0 := keepC hb5 t0
  have t1 := keepC hb5 t1
  have hz6 := hb5.size
  have HC5 := Lib.hid (HC4.out.below hb5 (Nat.le_refl _))
  have HR5 := Lib.hid ((HR3.out.below HB4.out (Nat.le_refl _)).below hb5 (by omega))
  have HD5 := Lib.hid ((HD3.out.below HB4.out (Nat.le_refl _)).below hb5 (by omega))
  have HB5 := Lib.hid (belowT (belowT (belowT HB0.out HB3.out) HB4.out) hb5)
  clear hb5 HC4 HB4 HR3 HD3 HB3 HB0
  go_upto_region 7 with fail
  go_cut [10, 11] (fun s8 s9 wx => ∃ g8 g9 : Nat, s8 = .pointer (some ⟨g8, 0, none⟩) ∧ s9 = .pointer (some ⟨g9, 0, none⟩) ∧ g8 ≠ g9 ∧ w5.heap.size ≤ g8 ∧ w5.heap.size ≤ g9 ∧ wx.cell? ⟨g8, 0, none⟩ = some (.int .i64 lo) ∧ wx.cell? ⟨g8, 1, none⟩ = some (.int .i64 hi) ∧ wx.cell? ⟨g8, 2, none⟩ = some (.slice A cs.length cap) ∧ wx.cell? ⟨g9, 0, none⟩ = some (.int .i64 P) ∧ wx.cell? ⟨g9, 1, none⟩ = some (.slice A2 cs.length cap2) ∧ (∀ o, wx.frozen? ⟨g8, o, none⟩ = false) ∧ (∀ o, wx.frozen? ⟨g9, o, none⟩ = false) ∧ Below w5.heap.size w5 wx)
  case first =>
    go_region_held3 (fun w' => w'.cell? ⟨w.heap.size, 0, none⟩ = some (.int .i64 lo) ∧ w'.cell? ⟨w.heap.size, 1, none⟩ = some (.int .i64 hi) ∧ w'.cell? ⟨w.heap.size, 2, none⟩ = some (.slice A cs.length cap) ∧ w'.cell? ⟨w2.heap.size, 0, none⟩ = some (.int .i64 P) ∧ w'.cell? ⟨w2.heap.size, 1, none⟩ = some (.slice A2 cs.length cap2)) (first | exact ⟨r0, r1, r2, t0, t1⟩ | exact ⟨keepA r0 _, keepA r1 _, keepA r2 _, keepA t0 _, keepA t1 _⟩ | exact ⟨keepA (keepA r0 _) _, keepA (keepA r1 _) _, keepA (keepA r2 _) _, keepA (keepA t0 _) _, keepA (keepA t1 _) _⟩ | go_keep) (fail)
    all_goals go_wp2_with fail
    all_goals go_meet
    all_goals first
      | exact ⟨w5.heap.size, w5.heap.size + 1, rfl, rfl, by omega, Nat.le_refl _, by omega, by go_simp, by go_simp, by go_simp, by go_simp, by go_simp, fun o => by go_simp, fun o => by go_simp, belowDr (belowA (belowA (belowR _) _) _)⟩
      | exact ⟨w5.heap.size + 1, w5.heap.size, rfl, rfl, by omega, by omega, Nat.le_refl _, by go_simp, by go_simp, by go_simp, by go_simp, by go_simp, fun o => by go_simp, fun o => by go_simp, belowDr (belowA (belowA (belowR _) _) _)⟩
  case rest =>
    obtain ⟨g8, g9, rfl, rfl, h89, hg8, hg9, a0, a1, a2, c0, c1, fa, fc, hbx⟩ := hcut
    obtain ⟨V6, rfl⟩ : ∃ W, W = wc := ⟨_, rfl⟩
    have r0 := keepC hbx r0
    have r1 := keepC hbx r1
    have r2 := keepC hbx r2
    have u0 := keepC hbx u0
    have u1 := keepC hbx u1
    have u2 := keepC hbx u2
    have u3 := keepC hbx u3
    have t0 := keepC hbx t0
    have t1 := keepC hbx t1
    have hl8 : g8 < V6.heap.size := lt_of_cell a0
    have hl9 : g9 < V6.heap.size := lt_of_cell c0
    have hz7 := hbx.size
    have HFA := Lib.hid (fa 2)
    have HFC := Lib.hid (fc 1)
    have HC6 := Lib.hid (HC5.out.below hbx (by omega))
    have HR6 := Lib.hid (HR5.out.below hbx (by omega))
    have HD6 := Lib.hid (HD5.out.below hbx (by omega))
    have HB6 := Lib.hid (belowT HB5.out hbx)
    clear hbx fa fc HC5 HR5 HD5 HB5 HFU HCOST
    obtain ⟨cc0, hcc0⟩ : ∃ c, cs[0]? = some c := ⟨_, List.getElem?_eq_getElem (by omega)⟩
    obtain ⟨dd0, hdd0⟩ : ∃ d, ds[0]? = some d := ⟨_, List.getElem?_eq_getElem (by have := HDL.out; omega)⟩
    obtain ⟨bc, oc, rfl, hbc, _⟩ := HR6.out 0 cc0 hcc0
    obtain ⟨bd, od, rfl, hbd, _⟩ := HD6.out 0 dd0 hdd0
    clear hcc0 hdd0
    have hAg : w.heap.size ≠ g8 := by omega
    have hFg : w.heap.size + 1 ≠ g8 := by omega
    have hTg : w2.heap.size ≠ g8 := by omega
    have hAg9 : w2.heap.size ≠ g9 := by omega
    have hFg9 : w.heap.size + 1 ≠ g9 := by omega
    have hEg9 : w.heap.size ≠ g9 := by omega
    go_upto_region 8 with fail
    refine cost_reg8 cs f hge1 hle7 r2 u0 u1 u2 u3 a2 HFA.out hAg hFg HR6.out ?_
    intro x51 x52 x53 x54 x55 x56 x57 x58 V7 hp8
    obtain ⟨h8, k8, e82, hown8, hon8, he8⟩ := hp8
    have a0 := he8 0 _ (by omega) a0
    have a1 := he8 1 _ (by omega) a1
    have r0 := hon8.cell r0 hAg
    have r1 := hon8.cell r1 hAg
    have r2 := hon8.cell r2 hAg
    have u0 := hon8.cell u0 hFg
    have u1 := hon8.cell u1 hFg
    have u2 := hon8.cell u2 hFg
    have u3 := hon8.cell u3 hFg
    have t0 := hon8.cell t0 hTg
    have t1 := hon8.cell t1 hTg
    have c0 := hon8.cell c0 (Ne.symm h89)
    have c1 := hon8.cell c1 (Ne.symm h89)
    have hz8 := hon8.size
    have HFC7 := Lib.hid ((hon8.frozen 1 hl9 (Ne.symm h89)).trans HFC.out)
    have HC7 := Lib.hid (hon8.rd1 HC6.out (by omega))
    have HR7 := Lib.hid (hon8.rdN HR6.out (by omega))
    have HD7 := Lib.hid (hon8.rd1 HD6.out (by omega))
    have HB7 := Lib.hid (hon8.below HB6.out (by omega))
    have HO7 := Lib.hid hown8
    clear hown8 hon8 he8 a2 HC6 HR6 HD6 HB6 HFA HFC
    go_upto_region 9 with fail
    refine cost_reg9 ds f.lo HDL.out hge1 hle7 t1 u2 c1 HFC7.out hAg9 hFg9 HD7.out ?_
    intro x59 x60 x61 x62 x63 x64 x65 x66 x67 x68 V8 hp9
    obtain ⟨h9, k9, e91, hown9, hon9, he9⟩ := hp9
    have c0 := he9 0 _ (by omega) c0
    have a0 := hon9.cell a0 h89
    have a1 := hon9.cell a1 h89
    have a2 := hon9.cell e82 h89
    have r0 := hon9.cell r0 hEg9
    have r1 := hon9.cell r1 hEg9
    have r2 := hon9.cell r2 hEg9
    have u1 := hon9.cell u1 hFg9
    have t0 := hon9.cell t0 hAg9
    have t1 := hon9.cell t1 hAg9
    have hz9 := hon9.size
    have hh8 : V6.heap.size ≤ h8 := (HO7.out.lt _ rfl).1
    have HC8 := Lib.hid (hon9.rd1 HC7.out (by omega))
    have HR8 := Lib.hid ((hon9.rdN HR7.out (by omega)).more (show W3.heap.size ≤ V8.heap.size by omega))
    have HD8 := Lib.hid ((hon9.rd1 HD7.out (by omega)).more (show W3.heap.size ≤ V8.heap.size by omega))
    have HB8 := Lib.hid (hon9.below HB7.out (by omega))
    have HO8 := Lib.hid (hon9.own HO7.out (by intro e; have e' : some h8 = some g9 := e; injection e' with e'; omega))
    have HP8 := Lib.hid hown9
    clear hown9 hon9 he9 e82 c1 HC7 HR7 HD7 HB7 HO7 HFC7 u0 u2 u3
    go_wp2_with fail
    refine (HPA.out V8 _ _ HR8.out HD8.out).mono ?_
    rintro e w9 ⟨A9, cap9, rfl, hown9, hb9⟩
    have a0 := keepC hb9 a0
    have a1 := keepC hb9 a1
    have a2 := keepC hb9 a2
    have c0 := keepC hb9 c0
    have c1 := keepC hb9 e91
    have r2 := keepC hb9 r2
    have u1 := keepC hb9 u1
    have hz10 := hb9.size
    have HC9 := Lib.hid (HC8.out.below hb9 (by omega))
    have HR9 := Lib.hid (HR8.out.below hb9 (by omega))
    have HQ9 := Lib.hid (own_rd1' hown9 HLA.out)
    have HO9 := Lib.hid (own_below HO8.out hb9)
    have HP9 := Lib.hid (own_below HP8.out hb9)
    have HB9 := Lib.hid (belowT HB8.out hb9)
    clear hown9 hb9 e91 r0 r1 t0 t1 HC8 HR8 HD8 HB8 HO8 HP8
    go_wp2_with fail
    refine (HPB.out w9 _ _ _ _ _ _ HO9.out HP9.out).mono ?_
    rintro e w10 ⟨A10, cap10, rfl, hown10, hb10⟩
    have r2 := keepC hb10 r2
    have u1 := keepC hb10 u1
    have HC10 := Lib.hid (HC9.out.below hb10 (by omega))
    have HR10 := Lib.hid (HR9.out.below hb10 (by omega))
    have HQA := Lib.hid (HQ9.out.below hb10 (Nat.le_refl _))
    have HQB := Lib.hid (own_rd1' hown10 HLB.out)
    have HB10 := Lib.hid (belowT HB9.out hb10)
    have hz11 := hb10.size
    clear hown10 hb10 a0 a1 a2 c0 c1 HC9 HR9 HQ9 HO9 HP9 HB9
    have hfalse : ((cs.length : Int) + 1 != (cs.length : Int) + 1) = false := by simp
    go_wp2
    go_loopw [18, 19] (fun vs vi wr => ∃ i : Nat, i ≤ cs.length ∧ vi = .int .i64 i ∧ vs = .int .i64 ((CL.take i).sum) ∧ Hid (Below w10.heap.size w10 wr)) (fun _ vi _ => cs.length - (intOf vi).toNat)
    case atStart => exact ⟨0, Nat.zero_le _, rfl, by simp, Lib.hid (belowR _)⟩
    case round =>
      obtain ⟨i, hi, rfl, rfl, HBR⟩ := hrel
      have hpt := HCLB.out i
      obtain ⟨T, hT⟩ : ∃ T, (CL.take i).sum = T := ⟨_, rfl⟩
      rw [hT] at hpt ⊢
      have hT0 := hpt.1
      have hT9 := hpt.2
      have HT := Lib.hid hT
      clear hpt hT
      by_cases hlt : i < cs.length
      · obtain ⟨c, x, y, hc, hx, hy, hz, hz0, hzr, hx0, hx9, hy0, hy9⟩ := HROW.out i hlt
        have hts := take_sumC hz
        rw [HT.out] at hts
        obtain ⟨z, hzz⟩ : ∃ z, x - y = z := ⟨_, rfl⟩
        rw [hzz] at hz hz0 hzr hts
        have HTS := Lib.hid hts
        have r2 := keepC HBR.out r2
        have u1 := keepC HBR.out u1
        obtain ⟨b1, o1, rfl, _, d1⟩ := (HC10.out.below HBR.out (by omega)) i z hz
        obtain ⟨b2, o2, rfl, _, d2⟩ := (HQA.out.below HBR.out (by omega)) i x hx
        obtain ⟨b3, o3, rfl, _, d3⟩ := (HQB.out.below HBR.out (by omega)) i y hy
        obtain ⟨b4, o4, ee, _, _, d4, _, _⟩ := clmAt (HR10.out.below HBR.out (by omega)) hc
        injection ee with ee
        injection ee with ee1 ee2
        subst ee1 ee2
        obtain ⟨rk, hrk⟩ : ∃ r, c.rank = r := ⟨_, rfl⟩
        rw [hrk] at hzr d4
        have hkz : (i : Int) < (cs.length : Int) := by omega
        have hkz1 : (i : Int) < (cs.length : Int) + 1 := by omega
        have hk0 : (0 : Int) ≤ (i : Int) := by omega
        have hd1 : decide (z < 0) = false := by simp; omega
        have hz9 : z ≤ 1000000000 := by omega
        have hw : IntKind.i64.wrap (x - y) = z := by rw [IntKind.wrap_i64]; omega
        have HW := Lib.hid hw
        have hne : (z != z) = false := by simp
        clear hts hc hx hy hz hrk hzz hw
        by_cases hz1 : 0 < z
        · have hd2 : decide (0 < z) = true := by simpa using hz1
          have hd3 : decide (rk < f.rank) = false := by simpa using hzr hz1
          clear hzr
          go_wp2
          have hw := HW.out
          go_quiet (fail)
          clear hw
          go_wp2
          go_roundw
          case rel => exact ⟨i + 1, by omega, by go_num, by rw [HTS.out], Lib.hid (belowN HBR.out _)⟩
          case measure => simp [intOf]; omega
        · have hd2 : decide (0 < z) = false := by simpa using hz1
          clear hzr
          go_wp2
          have hw := HW.out
          go_quiet (fail)
          clear hw
          go_wp2
          go_roundw
          case rel => exact ⟨i + 1, by omega, by go_num, by rw [HTS.out], Lib.hid (belowN HBR.out _)⟩
          case measure => simp [intOf]; omega
      · obtain rfl : i = cs.length := by omega
        have hTT : T = YL - (RA - RB) := by
          have h1 := HT.out
          rw [show CL.take cs.length = CL from by rw [← HLC.out]; exact List.take_length] at h1
          rw [← h1]; exact HSUM.out
        have hbeq : (T == YL - (RA - RB)) = true := beq_iff_eq.2 hTT
        obtain ⟨b3, o3, rfl, _, d3⟩ := (HQB.out.below HBR.out (by omega)) cs.length YL HLAST.out
        clear hTT
        have hlz : (cs.length : Int) < (cs.length : Int) + 1 := by omega
        go_wp2_with fail
        refine (awake_any _).mono ?_
        rintro e w14 ⟨rfl, hb14⟩
        go_wp2
        go_ret
        exact ⟨rfl, belowT (belowT HB10.out HBR.out) hb14⟩
end Go.Proofs.Ytblbbhenmhkknaa

namespace Go.Proofs.Ytblbbhenmhkknaa
open Go.RowKit
theorem costLaw_any (lo hi : Int) (A U : Option Addr) (cs : List Clm) (us : List Int) (B cap capU : Nat) (f : Clm) (w : World) (hm : cs.length ≤ cap) (hcm : cap ≤ maxLen) (hok : ClmsOk cs) (hfs : f.name.size ≤ maxLen) (hR : RdN 4 encClm w B A cs) (hB : B ≤ w.heap.size)
    (hU : Rd1 uv w B U us) (hul : us.length ≤ maxLen) (hub : ∀ x ∈ us, 0 ≤ x ∧ x ≤ 4294967295) :
    Calls Try.prog 15 #[.agg #[.int .i64 lo, .int .i64 hi, .slice A cs.length cap], .agg #[.string f.name, .int .i64 f.rank, .int .i64 f.lo, .int .i64 f.hi], .slice U us.length capU] w fun e w' => e = .returned (.bool true) ∧ Below w.heap.size w w' := by
  cases hb : rightB lo hi cs
  · exact costLaw_no1 lo hi A U cs us B cap capU f w hm hcm hok hR hB hb
  · by_cases hF : furtherE lo hi cs (anyP lo hi us) (anyD cs us cs.length) f = 0
    · exact costLaw_yes lo hi A U cs us B cap capU f w hm hcm hok hfs hR hB hU hul hub hb hF
    · exact costLaw_no2 lo hi A U cs us B cap capU f w hm hcm hok hfs hR hB hU hul hub hb hF
end Go.Proofs.Ytblbbhenmhkknaa
