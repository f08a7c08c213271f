/- ClaimTrue: the walk. -/
import Derived.Test.YtblbbhenmhkknaaYL5
import Derived.Test.YtblbbhenmhkknaaZ6659d1
namespace Go.Proofs.Ytblbbhenmhkknaa
open Go.RowKit

set_option maxRecDepth 1000000 in
set_option maxHeartbeats 4000000 in
theorem true_no (lo hi : Int) (A U : Option Addr) (cs : List Clm) (us : List Int) (B cap capU : Nat) (w : World) (hm : cs.length ≤ cap) (hcm : cap ≤ maxLen) (hok : ClmsOk cs) (hR : RdN 4 encClm w B A cs) (hB : B ≤ w.heap.size) (hb : rightB lo hi cs = false) :
    Calls Try.prog 12 #[.agg #[.int .i64 lo, .int .i64 hi, .slice A cs.length cap], .slice U us.length capU] w fun e w' => e = .returned (.bool true) ∧ Below w.heap.size w w' := by
  obtain ⟨W1, hW1⟩ : ∃ W1, w.alloc (.cells #[.int .i64 lo, .int .i64 hi, .slice A cs.length cap] 42) = W1 := ⟨_, rfl⟩
  have hb0 : Below w.heap.size w W1 := by rw [← hW1]; exact belowA (belowR _) _
  have p0 : W1.cell? ⟨w.heap.size, 0, none⟩ = some (.int .i64 lo) := by rw [← hW1]; clear hW1; go_simp
  have p1 : W1.cell? ⟨w.heap.size, 1, none⟩ = some (.int .i64 hi) := by rw [← hW1]; clear hW1; go_simp
  have p2 : W1.cell? ⟨w.heap.size, 2, none⟩ = some (.slice A cs.length cap) := by rw [← hW1]; clear hW1; go_simp
  have HB0 := Lib.hid hb0
  have hz1 := hb0.size
  have HR := Lib.hid (hR.below hb0 hB)
  have hE : estErr lo hi cs ≠ 0 := by simpa [rightB] using hb
  have hrn := fun W (hR : RdN 4 encClm W B A cs) (hB : B ≤ W.heap.size) => ranges_no lo hi A cs B cap W hm hcm hok hR hB hE
  have hrr := fun W (hR : RdN 4 encClm W B A cs) (hB : B ≤ W.heap.size) => right_any lo hi A cs B cap W hm hcm hok hR hB
  obtain ⟨E, hEE⟩ : ∃ E, estErr lo hi cs = E := ⟨_, rfl⟩
  rw [hEE] at hE hrn
  rw [hb] at hrr
  have hne : (E != 0) = true := by simpa using hE
  have HRN := Lib.hid hrn
  have HRR := Lib.hid hrr
  clear hrn hrr hE hEE hb hR hb0
  go_enter Try.func12, Try.ntmps12
  go_wp2_with fail
  refine (HRN.out _ HR.out (by omega)).mono ?_
  rintro e w1 ⟨rfl, hb1⟩
  have s0 := keepC hb1 p0
  have s1 := keepC hb1 p1
  have s2 := keepC hb1 p2
  have hz2 := hb1.size
  have HB1 := Lib.hid hb1
  clear hb1 p0 p1 p2
  go_wp2_with fail
  refine (HRR.out _ (HR.out.below HB1.out (by omega)) (by omega)).mono ?_
  rintro e w2 ⟨rfl, hb2⟩
  have HB2 := Lib.hid hb2
  clear hb2 s0 s1 s2
  go_wp2_with fail
  refine (awake_any _).mono ?_
  rintro e w3 ⟨rfl, hb3⟩
  go_wp2
  go_ret
  exact ⟨rfl, belowT (belowT (belowT HB0.out HB1.out) HB2.out) hb3⟩

set_option maxRecDepth 1000000 in
set_option maxHeartbeats 8000000 in
theorem true_yes (lo hi : Int) (A U : Option Addr) (cs : List Clm) (us : List Int) (B cap capU : Nat) (w : World) (hm : cs.length ≤ cap) (hcm : cap ≤ maxLen) (hok : ClmsOk cs) (hR : RdN 4 encClm w B A cs) (hB : B ≤ w.heap.size)
    (hU : Rd1 uv w B U us) (hul : us.length ≤ maxLen) (hub : ∀ x ∈ us, 0 ≤ x ∧ x ≤ 4294967295) (hb : rightB lo hi cs = true) :
    Calls Try.prog 12 #[.agg #[.int .i64 lo, .int .i64 hi, .slice A cs.length cap], .slice U us.length capU] w fun e w' => e = .returned (.bool true) ∧ Below w.heap.size w w' := by
  obtain ⟨W1, hW1⟩ : ∃ W1, w.alloc (.cells #[.int .i64 lo, .int .i64 hi, .slice A cs.length cap] 42) = W1 := ⟨_, rfl⟩
  have hb0 : Below w.heap.size w W1 := by rw [← hW1]; exact belowA (belowR _) _
  have p0 : W1.cell? ⟨w.heap.size, 0, none⟩ = some (.int .i64 lo) := by rw [← hW1]; clear hW1; go_simp
  have p1 : W1.cell? ⟨w.heap.size, 1, none⟩ = some (.int .i64 hi) := by rw [← hW1]; clear hW1; go_simp
  have p2 : W1.cell? ⟨w.heap.size, 2, none⟩ = some (.slice A cs.length cap) := by rw [← hW1]; clear hW1; go_simp
  have HB0 := Lib.hid hb0
  have hz1 := hb0.size
  have HR := Lib.hid (hR.below hb0 hB)
  have HU := Lib.hid (hU.below hb0 hB)
  have hE : estErr lo hi cs = 0 := by simpa [rightB] using hb
  have hest := est_ok hE
  have hle8 := hest.len.2
  have hge1 := hest.len.1
  have ht := any_truth (us := us) hE
  have hrr := fun W (hR : RdN 4 encClm W B A cs) (hB : B ≤ W.heap.size) => right_any lo hi A cs B cap W hm hcm hok hR hB
  rw [hb] at hrr
  obtain ⟨P, hP⟩ : ∃ P, anyP lo hi us = P := ⟨_, rfl⟩
  obtain ⟨ds, hds⟩ : ∃ ds, anyD cs us cs.length = ds := ⟨_, rfl⟩
  have hdl : ds.length = cs.length := by rw [← hds]; exact anyD_len _ _ _
  have hany := fun W (hR : RdN 4 encClm W B A cs) (hB : B ≤ W.heap.size) (hU : Rd1 uv W B U us) => any_any lo hi A U cs us B cap capU W hR hB hU hul hub hE
  unfold AnyPost at hany
  rw [hP, hds] at ht hany
  have hto := (truthE_ok ht).1
  have hpy := fun W A2 cap2 (hR : RdN 4 encClm W W.heap.size A cs) (hD : Rd1 iv W W.heap.size A2 ds) => pays_yes lo hi A A2 cs W.heap.size cap cap2 P ds W hm hcm hok hR (Nat.le_refl _) hD ht
  rw [hdl] at hpy
  unfold PaysYes at hpy
  have hrg := fun W (hR : RdN 4 encClm W B A cs) (hB : B ≤ W.heap.size) => ranges_yes lo hi A cs B cap W hm hcm hok hR hB hE
  unfold RangesYes at hrg
  have hsu := fun W (hR : RdN 4 encClm W B A cs) (hB : B ≤ W.heap.size) => sure_yes lo hi A cs B cap W hm hcm hok hR hB hE
  unfold SureYes at hsu
  obtain ⟨SL, hSL⟩ : ∃ SL, sureL lo (cs.map c3) cs.length = SL := ⟨_, rfl⟩
  rw [hSL] at hsu
  have hsl8 : SL.length ≤ 8 := by have := sureL_le lo (cs.map c3) cs.length; rw [hSL] at this; omega
  -- the facts of each index
  have hrow : ∀ i, i < cs.length → ∃ x p y, (pays (jl cs ds) P)[i]? = some p ∧ (rangesL lo hi (cs.map c3) cs.length)[i]? = some (x, y) ∧ x ≤ p ∧ p ≤ y := fun i hi => by
    obtain ⟨c, hc⟩ : ∃ c, cs[i]? = some c := ⟨_, List.getElem?_eq_getElem hi⟩
    obtain ⟨d, hd⟩ : ∃ d, ds[i]? = some d := ⟨_, List.getElem?_eq_getElem (by omega)⟩
    have hj := jl_at (ds := ds) hc
    rw [getD_at hd] at hj
    exact ⟨_, _, _, pays_get hj, rangesL_at hi, true_low hto hc hd, true_high hto hc hd⟩
  have hsure : ∀ j v, SL[j]? = some v → v < cs.length ∧ ∃ d, ds[v]? = some d ∧ (pays (jl cs ds) P)[v]? = some d := fun j v hv => by
    have hm := List.mem_of_getElem? hv
    rw [← hSL] at hm
    obtain ⟨hvn, c', hc', hn⟩ := sureL_mem hm
    obtain ⟨c, hc⟩ : ∃ c, cs[v]? = some c := ⟨_, List.getElem?_eq_getElem hvn⟩
    obtain ⟨d, hd⟩ : ∃ d, ds[v]? = some d := ⟨_, List.getElem?_eq_getElem (by omega)⟩
    have e : c' = c3 c := by rw [l3_at hc] at hc'; exact (Option.some.inj hc').symm
    subst e
    have hj := jl_at (ds := ds) hc
    rw [getD_at hd] at hj
    have hf := sure_full hto hc hd hn hto.pro.1
    exact ⟨hvn, d, hd, by rw [pays_get hj, hf]⟩
  have hasc : ∀ j a b, SL[j]? = some a → SL[j + 1]? = some b → a < b := fun j a b ha hb => pairwise_step (by rw [← hSL]; exact sureL_asc _ _ _) ha hb
  have hrgl := rangesL_len lo hi (cs.map c3) cs.length
  obtain ⟨RL, hRL⟩ : ∃ RL, rangesL lo hi (cs.map c3) cs.length = RL := ⟨_, rfl⟩
  rw [hRL] at hrg hrow hrgl
  have hpl : (pays (jl cs ds) P).length = cs.length := by rw [pays_len, jl_len]
  obtain ⟨PL, hPL⟩ : ∃ PL, pays (jl cs ds) P = PL := ⟨_, rfl⟩
  rw [hPL] at hpy hrow hsure hpl
  obtain ⟨RST, hRST⟩ : ∃ r, P - PL.sum = r := ⟨_, rfl⟩
  rw [hRST] at hpy
  have HRR := Lib.hid hrr
  have HANY := Lib.hid hany
  have HPY := Lib.hid hpy
  have HRG := Lib.hid hrg
  have HSU := Lib.hid hsu
  have HROW := Lib.hid hrow
  have HSURE := Lib.hid hsure
  have HASC := Lib.hid hasc
  have HDL := Lib.hid hdl
  have HRL := Lib.hid hrgl
  have HPL := Lib.hid hpl
  clear hrr hb hest ht hto hany hpy hrg hsu hrow hsure hasc hE hP hds hSL hRL hPL hdl hrgl hpl hRST hR hU hb0
  go_enter Try.func12, Try.ntmps12
  go_wp2_with fail
  refine (HRG.out _ HR.out (by omega)).mono ?_
  rintro e w1 ⟨A5, cap5, rfl, hown1, hb1⟩
  have s0 := keepC hb1 p0
  have s1 := keepC hb1 p1
  have s2 := keepC hb1 p2
  have hz2 := hb1.size
  have HQ1 := Lib.hid (own_rdN' encSp_len hown1 HRL.out)
  have HB1 := Lib.hid hb1
  clear hb1 p0 p1 p2 hown1
  go_wp2_with fail
  refine (HRR.out _ (HR.out.below HB1.out (by omega)) (by omega)).mono ?_
  rintro e w2 ⟨rfl, hb2⟩
  have t0 := keepC hb2 s0
  have t1 := keepC hb2 s1
  have t2 := keepC hb2 s2
  have hz3 := hb2.size
  have HB2 := Lib.hid (belowT HB1.out hb2)
  have HQ2 := Lib.hid (HQ1.out.below hb2 (Nat.le_refl _))
  clear hb2 s0 s1 s2 HQ1 HB1
  go_wp2_with fail
  refine (HANY.out _ (HR.out.below HB2.out (by omega)) (by omega) (HU.out.below HB2.out (by omega))).mono ?_
  rintro e w3 ⟨A2, cap2, rfl, hown3, hb3⟩
  have r0 := keepC hb3 t0
  have r1 := keepC hb3 t1
  have r2 := keepC hb3 t2
  have k0 := fun ob => keepA r0 ob
  have k1 := fun ob => keepA r1 ob
  have k2 := fun ob => keepA r2 ob
  have hz4 := hb3.size
  have HD3 := Lib.hid (own_rd1' hown3 HDL.out)
  have HB3 := Lib.hid (belowT HB2.out hb3)
  have HQ3 := Lib.hid (HQ2.out.below hb3 hz3)
  clear hb3 hown3 t0 t1 t2 HQ2 HB2 HANY
  go_wp2_with fail
  refine (HPY.out _ A2 cap2 (((HR.out.below HB3.out (by omega)).alloc (by omega) _).more (by simp; omega)) ((HD3.out.alloc (Nat.le_refl _) _).more (by simp))).mono ?_
  rintro e w4 ⟨A3, cap3, rfl, hown4, hb4⟩
  have u1 : w4.cell? ⟨w3.heap.size, 1, none⟩ = some (.slice A2 cs.length cap2) := keepC hb4 (by go_simp)
  have v0 : w4.cell? ⟨w.heap.size, 0, none⟩ = some (.int .i64 lo) := keepC hb4 (keepA r0 _)
  have v1 : w4.cell? ⟨w.heap.size, 1, none⟩ = some (.int .i64 hi) := keepC hb4 (keepA r1 _)
  have v2 : w4.cell? ⟨w.heap.size, 2, none⟩ = some (.slice A cs.length cap) := keepC hb4 (keepA r2 _)
  have hB34 : Below w3.heap.size w3 w4 := belowT (belowA (belowR _) _) hb4
  have hz5 := hB34.size
  have HP4 := Lib.hid (own_rd1' hown4 HPL.out)
  have HD4 := Lib.hid (HD3.out.below hB34 (Nat.le_refl _))
  have HQ4 := Lib.hid (HQ3.out.below hB34 (by omega))
  have HB4 := Lib.hid (belowT HB3.out hB34)
  clear hb4 hB34 hown4 r0 r1 r2 k0 k1 k2 HQ3 HD3 HB3 HPY
  go_wp2_with fail
  refine (HSU.out _ (HR.out.below HB4.out (by omega)) (by omega)).mono ?_
  rintro e w5 ⟨vs, rfl, hown5, hb5⟩
  obtain ⟨A6, cap6, rfl, hrs, hx6⟩ := own_rd1 hown5
  clear hx6
  have x1 := keepC hb5 u1
  have x2 := keepC hb5 v2
  have hz6 := hb5.size
  have HS5 := Lib.hid hrs
  have HP5 := Lib.hid (HP4.out.below hb5 (Nat.le_refl _))
  have HD5 := Lib.hid (HD4.out.below hb5 (by omega))
  have HQ5 := Lib.hid (HQ4.out.below hb5 (by omega))
  have HB5 := Lib.hid (belowT HB0.out (belowT HB4.out hb5))
  clear hb5 hown5 hrs u1 v0 v1 v2 HP4 HD4 HQ4 HB4 HSU HR HU
  go_wp2
  go_loopw [13] (fun vi wr => ∃ i : Nat, i ≤ cs.length ∧ vi = .int .i64 i ∧ Hid (Below w5.heap.size w5 wr)) (fun vi _ => cs.length - (intOf vi).toNat)
  case atStart => exact ⟨0, Nat.zero_le _, rfl, Lib.hid (belowR _)⟩
  case round =>
    obtain ⟨i, hi, rfl, HBR⟩ := hrel
    by_cases hlt : i < cs.length
    · obtain ⟨x, p, y, hp, hxy, hle1, hle2⟩ := HROW.out i hlt
      obtain ⟨b1, o1, rfl, _, c1⟩ := (HP5.out.below HBR.out (by omega)) i p hp
      obtain ⟨b2, o2, rfl, _, d1, d2⟩ := spAt (HQ5.out.below HBR.out (by omega)) hxy
      simp only at d1 d2
      have hkz : (i : Int) < (cs.length : Int) := by omega
      have hk0 : (0 : Int) ≤ (i : Int) := by omega
      have hd1 : decide (p < x) = false := by simp; omega
      have hd2 : decide (y < p) = false := by simp; omega
      clear hp hxy
      go_wp2
      go_quiet (fail)
      go_wp2
      go_roundw
      case rel => exact ⟨i + 1, by omega, by go_num, Lib.hid (belowN HBR.out _)⟩
      case measure => simp [intOf]; omega
    · obtain rfl : i = cs.length := by omega
      have HBL := Lib.hid HBR.out
      clear HBR
      go_wp2
      go_loopw [14] (fun vi wz => ∃ j : Nat, j ≤ SL.length ∧ vi = .int .i64 j ∧ Hid (Below w5.heap.size w5 wz)) (fun vi _ => SL.length - (intOf vi).toNat)
      case atStart => exact ⟨0, Nat.zero_le _, rfl, HBL⟩
      case round =>
        clear HBL
        obtain ⟨j, hj, rfl, HBZ⟩ := hrel
        by_cases hltj : j < SL.length
        · obtain ⟨v, hv⟩ : ∃ v, SL[j]? = some v := ⟨_, List.getElem?_eq_getElem hltj⟩
          obtain ⟨hvn, d, hd, hp⟩ := HSURE.out j v hv
          have y1 := keepC HBZ.out x1
          obtain ⟨b1, o1, rfl, _, c1⟩ := (HP5.out.below HBZ.out (by omega)) v d hp
          obtain ⟨b2, o2, rfl, _, c2⟩ := (HD5.out.below HBZ.out (by omega)) v d hd
          obtain ⟨b3, o3, rfl, _, c3'⟩ := (HS5.out.below HBZ.out (by omega)) j v hv
          have hvz : (v : Int) < (cs.length : Int) := by omega
          have hv0 : (0 : Int) ≤ (v : Int) := by omega
          have hjz : (j : Int) < (SL.length : Int) := by omega
          have hj0 : (0 : Int) ≤ (j : Int) := by omega
          have hg1 : decide ((v : Int) < 0) = false := by simp
          have hg2 : decide (cs.length ≤ v) = false := by simp; omega
          have hg3 : decide ((cs.length : Int) ≤ (v : Int)) = false := by simp; omega
          rcases Nat.eq_zero_or_pos j with rfl | hjp
          · clear hd hp hv
            rw [Nat.add_zero] at c3'
            go_wp2
            go_quiet (fail)
            go_wp2
            go_roundw
            case rel => exact ⟨0 + 1, by omega, by go_num, Lib.hid (belowN HBZ.out _)⟩
            case measure => simp [intOf]; omega
          · obtain ⟨m, rfl⟩ : ∃ m, j = m + 1 := ⟨j - 1, by omega⟩
            obtain ⟨v', hv'⟩ : ∃ v', SL[m]? = some v' := ⟨_, List.getElem?_eq_getElem (by omega)⟩
            have hlt' := HASC.out m v' v hv' hv
            obtain ⟨b3', o3', ee, _, c4⟩ := (HS5.out.below HBZ.out (by omega)) m v' hv'
            injection ee with ee
            injection ee with ee1 ee2
            subst ee1 ee2
            clear hd hp hv hv'
            have hg4 : decide (v ≤ v') = false := by simp; omega
            have hg5 : decide ((v : Int) ≤ (v' : Int)) = false := by simp; omega
            go_wp2
            go_quiet (fail)
            go_wp2
            go_roundw
            case rel => exact ⟨m + 1 + 1, by omega, by go_num, Lib.hid (belowN HBZ.out _)⟩
            case measure => simp [intOf]; omega
        · obtain rfl : j = SL.length := by omega
          go_wp2_with fail
          refine (awake_any _).mono ?_
          rintro e w9 ⟨rfl, hb9⟩
          go_wp2
          go_ret
          exact ⟨rfl, belowT (belowT HB5.out HBZ.out) hb9⟩

theorem true_any (lo hi : Int) (A U : Option Addr) (cs : List Clm) (us : List Int) (B cap capU : Nat) (w : World) (hm : cs.length ≤ cap) (hcm : cap ≤ maxLen) (hok : ClmsOk cs) (hR : RdN 4 encClm w B A cs) (hB : B ≤ w.heap.size)
    (hU : Rd1 uv w B U us) (hul : us.length ≤ maxLen) (hub : ∀ x ∈ us, 0 ≤ x ∧ x ≤ 4294967295) :
    Calls Try.prog 12 #[.agg #[.int .i64 lo, .int .i64 hi, .slice A cs.length cap], .slice U us.length capU] w fun e w' => e = .returned (.bool true) ∧ Below w.heap.size w w' := by
  cases hb : rightB lo hi cs
  · exact true_no lo hi A U cs us B cap capU w hm hcm hok hR hB hb
  · exact true_yes lo hi A U cs us B cap capU w hm hcm hok hR hB hU hul hub hb
end Go.Proofs.Ytblbbhenmhkknaa
