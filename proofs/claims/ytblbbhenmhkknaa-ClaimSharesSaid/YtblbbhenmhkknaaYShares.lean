/- ClaimShares: the walk. -/
import Derived.Test.YtblbbhenmhkknaaYL5
import Derived.Test.YtblbbhenmhkknaaYP1
namespace Go.Proofs.Ytblbbhenmhkknaa
open Go.RowKit

set_option maxRecDepth 1000000 in
set_option maxHeartbeats 4000000 in
theorem shares_any (lo hi : Int) (A U : Option Addr) (cs : List Clm) (us : List Int) (B cap capU x0 x1 : Nat) (w : World) (hm : cs.length ≤ cap) (hcm : cap ≤ maxLen) (hok : ClmsOk cs) (hR : RdN 4 encClm w B A cs) (hB : B ≤ w.heap.size)
    (hU : Rd1 uv w B U us) (hul : us.length ≤ maxLen) (hub : ∀ x ∈ us, 0 ≤ x ∧ x ≤ 4294967295) (hx0 : x0 ≤ 255) (hx1 : x1 ≤ 255) :
    Calls Try.prog 10 #[.agg #[.int .i64 lo, .int .i64 hi, .slice A cs.length cap], .slice U us.length capU, .agg #[.int .u8 x0, .int .u8 x1]] w fun e w' => e = .returned (.bool true) ∧ Below w.heap.size w w' := by
  obtain ⟨W1, hW1⟩ : ∃ W1, (w.alloc (.cells #[.int .i64 lo, .int .i64 hi, .slice A cs.length cap] 42)).alloc (.cells #[.int .u8 x0, .int .u8 x1] 78) = W1 := ⟨_, rfl⟩
  have hb0 : Below w.heap.size w W1 := by rw [← hW1]; exact belowA (belowA (belowR _) _) _
  have p0 : W1.cell? ⟨w.heap.size, 0, none⟩ = some (.int .i64 lo) := by rw [← hW1]; clear hW1; go_simp
  have p1 : W1.cell? ⟨w.heap.size, 1, none⟩ = some (.int .i64 hi) := by rw [← hW1]; clear hW1; go_simp
  have p2 : W1.cell? ⟨w.heap.size, 2, none⟩ = some (.slice A cs.length cap) := by rw [← hW1]; clear hW1; go_simp
  have q0 : W1.cell? ⟨w.heap.size + 1, 0, none⟩ = some (.int .u8 x0) := by rw [← hW1]; clear hW1; go_simp
  have q1 : W1.cell? ⟨w.heap.size + 1, 1, none⟩ = some (.int .u8 x1) := by rw [← hW1]; clear hW1; go_simp
  have HB0 := Lib.hid hb0
  have hz1 := hb0.size
  have hRr := right_any lo hi A cs B cap W1 hm hcm hok (hR.below hb0 hB) (by omega)
  have HR := Lib.hid (hR.below hb0 hB)
  have HU := Lib.hid (hU.below hb0 hB)
  cases hb : rightB lo hi cs
  · rw [hb] at hRr
    have HRR := Lib.hid hRr
    clear hRr hb
    go_enter Try.func10, Try.ntmps10
    go_wp2_with fail
    refine HRR.out.mono ?_
    rintro e w1 ⟨rfl, hb1⟩
    have HB1 := Lib.hid hb1
    clear hb1
    go_wp2_with fail
    refine (awake_any _).mono ?_
    rintro e w2 ⟨rfl, hb2⟩
    go_wp2
    go_ret
    exact ⟨rfl, belowT (belowT HB0.out HB1.out) hb2⟩
  rw [hb] at hRr
  have hE : estErr lo hi cs = 0 := by simpa [rightB] using hb
  have hest := est_ok hE
  have hle8 := hest.len.2
  have hge1 := hest.len.1
  have ht := any_truth (us := us) hE
  have hto := (truthE_ok ht).1
  have hokj := hto.ok3
  obtain ⟨P, hP⟩ : ∃ P, anyP lo hi us = P := ⟨_, rfl⟩
  obtain ⟨ds, hds⟩ : ∃ ds, anyD cs us cs.length = ds := ⟨_, rfl⟩
  have hdl : ds.length = cs.length := by rw [← hds]; exact anyD_len _ _ _
  have hany := fun W (hR : RdN 4 encClm W B A cs) (hB : B ≤ W.heap.size) (hU : Rd1 uv W B U us) => any_any lo hi A U cs us B cap capU W hR hB hU hul hub hE
  unfold AnyPost at hany
  rw [hP, hds] at ht hto hany
  rw [hds] at hokj
  have hpy := fun W A2 cap2 (hR : RdN 4 encClm W W.heap.size A cs) (hD : Rd1 iv W W.heap.size A2 ds) => pays_yes lo hi A A2 cs W.heap.size cap cap2 P ds W hm hcm hok hR (Nat.le_refl _) hD ht
  rw [hdl] at hpy
  unfold PaysYes at hpy
  -- the two claims
  have hmi : x0 % cs.length < cs.length := Nat.mod_lt _ (by omega)
  have hmk : x1 % cs.length < cs.length := Nat.mod_lt _ (by omega)
  obtain ⟨i, hi0⟩ : ∃ i, x0 % cs.length = i := ⟨_, rfl⟩
  obtain ⟨k, hk0⟩ : ∃ k, x1 % cs.length = k := ⟨_, rfl⟩
  rw [hi0] at hmi
  rw [hk0] at hmk
  have hmod0 : (x0 : Int) % (cs.length : Int) = (i : Int) := by rw [← hi0]; simp
  have hmod1 : (x1 : Int) % (cs.length : Int) = (k : Int) := by rw [← hk0]; simp
  obtain ⟨ci, hci⟩ : ∃ c, cs[i]? = some c := ⟨_, List.getElem?_eq_getElem hmi⟩
  obtain ⟨ck, hck⟩ : ∃ c, cs[k]? = some c := ⟨_, List.getElem?_eq_getElem hmk⟩
  obtain ⟨a, hda⟩ : ∃ d, ds[i]? = some d := ⟨_, List.getElem?_eq_getElem (by omega)⟩
  obtain ⟨b, hdb⟩ : ∃ d, ds[k]? = some d := ⟨_, List.getElem?_eq_getElem (by omega)⟩
  have hji := jl_at (ds := ds) hci
  have hjk := jl_at (ds := ds) hck
  rw [List.getD_eq_getElem?_getD, hda] at hji
  rw [List.getD_eq_getElem?_getD, hdb] at hjk
  simp only [Option.getD_some] at hji hjk
  have hgi := pays_get (P := P) hji
  have hgk := pays_get (P := P) hjk
  have hbi := payAt_bound (P := P) hokj (List.mem_of_getElem? hji)
  have hbk := payAt_bound (P := P) hokj (List.mem_of_getElem? hjk)
  have hoi := hokj _ (List.mem_of_getElem? hji)
  have hok' := hokj _ (List.mem_of_getElem? hjk)
  have hs1 : ci.rank = ck.rank → 0 < a → 0 < b → payAt (jl cs ds) P ⟨ci.rank, a, a⟩ * b - payAt (jl cs ds) P ⟨ck.rank, b, b⟩ * a < a := fun hr ha hb => shares_law (d := ⟨ck.rank, b, b⟩) hokj (List.mem_of_getElem? hji) hr ha hb
  have hs2 : ci.rank = ck.rank → 0 < a → 0 < b → payAt (jl cs ds) P ⟨ck.rank, b, b⟩ * a - payAt (jl cs ds) P ⟨ci.rank, a, a⟩ * b < b := fun hr ha hb => shares_law (d := ⟨ci.rank, a, a⟩) hokj (List.mem_of_getElem? hjk) hr.symm hb ha
  obtain ⟨p, hp⟩ : ∃ p, payAt (jl cs ds) P ⟨ci.rank, a, a⟩ = p := ⟨_, rfl⟩
  obtain ⟨q, hq⟩ : ∃ q, payAt (jl cs ds) P ⟨ck.rank, b, b⟩ = q := ⟨_, rfl⟩
  rw [hp] at hgi hbi hs1 hs2
  rw [hq] at hgk hbk hs1 hs2
  simp only at hbi hbk hoi hok'
  have hp0 := hbi.1
  have hpa := hbi.2
  have hq0 := hbk.1
  have hqb := hbk.2
  have ha0 : 0 ≤ a := hoi.2.2.1
  have ha9 : a ≤ 1000000000 := hoi.2.2.2.1
  have hb0' : 0 ≤ b := hok'.2.2.1
  have hb9 : b ≤ 1000000000 := hok'.2.2.2.1
  have HRR := Lib.hid hRr
  have HANY := Lib.hid hany
  have HPY := Lib.hid hpy
  have HGI := Lib.hid hgi
  have HGK := Lib.hid hgk
  have HCI := Lib.hid hci
  have HCK := Lib.hid hck
  have HDA := Lib.hid hda
  have HDB := Lib.hid hdb
  have HDL := Lib.hid hdl
  have HS1 := Lib.hid hs1
  have HS2 := Lib.hid hs2
  have hiz : (i : Int) < (cs.length : Int) := by omega
  have hkz : (k : Int) < (cs.length : Int) := by omega
  have hi00 : (0 : Int) ≤ (i : Int) := by omega
  have hk00 : (0 : Int) ≤ (k : Int) := by omega
  have hmod0' := hmod0
  clear hRr hb hest ht hto hokj hany hpy hgi hgk hci hck hda hdb hdl hs1 hs2 hji hjk hbi hbk hoi hok' hE hp hq hi0 hk0 hP hds hmod0' hb0
  go_enter Try.func10, Try.ntmps10
  go_wp2_with fail
  refine HRR.out.mono ?_
  rintro e w1 ⟨rfl, hb1⟩
  have s0 := keepC hb1 p0
  have s1 := keepC hb1 p1
  have s2 := keepC hb1 p2
  have hz2 := hb1.size
  have HB1 := Lib.hid hb1
  have HR1 := Lib.hid (HR.out.below hb1 (by omega))
  have HU1 := Lib.hid (HU.out.below hb1 (by omega))
  clear hb1 hR hU HR HU
  go_wp2_with fail
  refine (HANY.out _ HR1.out (by omega) HU1.out).mono ?_
  rintro e w2 ⟨A2, cap2, rfl, hown2, hb2⟩
  have hz3 := hb2.size
  have HD2 := Lib.hid (own_rd1' hown2 HDL.out)
  have HR2 := Lib.hid (HR1.out.below hb2 (by omega))
  have r0 := keepC hb2 s0
  have r1 := keepC hb2 s1
  have r2 := keepC hb2 s2
  have k0 := fun ob => keepA r0 ob
  have k1 := fun ob => keepA r1 ob
  have k2 := fun ob => keepA r2 ob
  have HB2 := Lib.hid hb2
  clear hb2 hown2 s0 s1 s2 HANY
  go_wp2_with fail
  refine (HPY.out _ A2 cap2 ((HR2.out.alloc (by omega) _).more (by simp; omega)) ((HD2.out.alloc (Nat.le_refl _) _).more (by simp))).mono ?_
  rintro e w3 ⟨A3, cap3, rfl, hown3, hb3⟩
  have t2 : w3.cell? ⟨w.heap.size, 2, none⟩ = some (.slice A cs.length cap) := keepC hb3 (keepA r2 _)
  have u0 : w3.cell? ⟨w2.heap.size, 0, none⟩ = some (.int .i64 P) := keepC hb3 (by go_simp)
  have u1 : w3.cell? ⟨w2.heap.size, 1, none⟩ = some (.slice A2 cs.length cap2) := keepC hb3 (by go_simp)
  have v0 : w3.cell? ⟨w.heap.size + 1, 0, none⟩ = some (.int .u8 x0) := keepC hb3 (keepA (keepC HB2.out (keepC HB1.out q0)) _)
  have v1 : w3.cell? ⟨w.heap.size + 1, 1, none⟩ = some (.int .u8 x1) := keepC hb3 (keepA (keepC HB2.out (keepC HB1.out q1)) _)
  have HD3 := HD2.out.below (belowT (belowA (belowR _) _) hb3) (Nat.le_refl _)
  have HR3 := HR2.out.below (belowT (belowA (belowR _) _) hb3) (by omega)
  have hrd3 := own_rd1' hown3 (by rw [pays_len, jl_len])
  obtain ⟨bc, oc, rfl, _, _, ec, _, _⟩ := clmAt HR3 HCI.out
  obtain ⟨bc', oc', ee, _, _, ek, _, _⟩ := clmAt HR3 HCK.out
  injection ee with ee
  injection ee with ee1 ee2
  subst ee1 ee2
  obtain ⟨bd, od, rfl, _, fa⟩ := HD3 i a HDA.out
  obtain ⟨bd', od', ee, _, fb⟩ := HD3 k b HDB.out
  injection ee with ee
  injection ee with ee1 ee2
  subst ee1 ee2
  obtain ⟨be, oe, rfl, _, gp⟩ := hrd3 i p HGI.out
  obtain ⟨be', oe', ee, _, gq⟩ := hrd3 k q HGK.out
  injection ee with ee
  injection ee with ee1 ee2
  subst ee1 ee2
  have HBF : Hid (Below w.heap.size w w3) := Lib.hid (belowT (belowT (belowT HB0.out HB1.out) HB2.out) (belowT (belowA (belowR _) _) hb3))
  clear hb3 hown3 HD3 HR3 hrd3 HD2 HR2 HU1 HR1 r0 r1 r2 k0 k1 k2 HB1 HB2 q0 q1 p0 p1 p2 HPY HRR u0
  obtain ⟨ri, hri⟩ : ∃ r, ci.rank = r := ⟨_, rfl⟩
  obtain ⟨rk, hrk⟩ : ∃ r, ck.rank = r := ⟨_, rfl⟩
  rw [hri] at ec
  rw [hrk] at ek
  have HRI := Lib.hid hri
  have HRK := Lib.hid hrk
  clear hri hrk
  go_wp2
  go_quiet (fail)
  have HB4 := Lib.hid (belowN HBF.out nq)
  have t2 : (w3.drewN nq).cell? ⟨w.heap.size, 2, none⟩ = some (.slice (some ⟨bc, oc, none⟩) cs.length cap) := t2
  have u1 : (w3.drewN nq).cell? ⟨w2.heap.size, 1, none⟩ = some (.slice (some ⟨bd, od, none⟩) cs.length cap2) := u1
  have ec : (w3.drewN nq).cell? ⟨bc, oc + i * 4 + 1, none⟩ = some (.int .i64 ri) := ec
  have ek : (w3.drewN nq).cell? ⟨bc, oc + k * 4 + 1, none⟩ = some (.int .i64 rk) := ek
  have fa : (w3.drewN nq).cell? ⟨bd, od + i, none⟩ = some (.int .i64 a) := fa
  have fb : (w3.drewN nq).cell? ⟨bd, od + k, none⟩ = some (.int .i64 b) := fb
  have gp : (w3.drewN nq).cell? ⟨be, oe + i, none⟩ = some (.int .i64 p) := gp
  have gq : (w3.drewN nq).cell? ⟨be, oe + k, none⟩ = some (.int .i64 q) := gq
  clear HBF v0 v1
  generalize w3.drewN nq = W4 at *
  by_cases hr : ri = rk
  case neg =>
    have hne : (ri != rk) = true := by simpa using hr
    clear hr
    go_wp2
    go_quiet (fail)
    go_wp2_with fail
    refine (awake_any _).mono ?_
    rintro e w5 ⟨rfl, hb5⟩
    go_wp2
    go_ret
    exact ⟨rfl, belowT (belowN HB4.out _) hb5⟩
  subst hr
  go_wp2
  go_quiet (fail)
  have HB5 := Lib.hid (belowN HB4.out nq)
  have u1 : (W4.drewN nq).cell? ⟨w2.heap.size, 1, none⟩ = some (.slice (some ⟨bd, od, none⟩) cs.length cap2) := u1
  have fa : (W4.drewN nq).cell? ⟨bd, od + i, none⟩ = some (.int .i64 a) := fa
  have fb : (W4.drewN nq).cell? ⟨bd, od + k, none⟩ = some (.int .i64 b) := fb
  have gp : (W4.drewN nq).cell? ⟨be, oe + i, none⟩ = some (.int .i64 p) := gp
  have gq : (W4.drewN nq).cell? ⟨be, oe + k, none⟩ = some (.int .i64 q) := gq
  clear HB4 t2 ec ek
  generalize W4.drewN nq = W5 at *
  go_wp2
  go_quiet (fail)
  have HB6 := Lib.hid (belowN HB5.out nq)
  have gp : (W5.drewN nq).cell? ⟨be, oe + i, none⟩ = some (.int .i64 p) := gp
  have gq : (W5.drewN nq).cell? ⟨be, oe + k, none⟩ = some (.int .i64 q) := gq
  clear HB5 u1 fa fb
  generalize W5.drewN nq = W6 at *
  by_cases ha : a = 0
  · subst ha
    obtain rfl : p = 0 := by omega
    by_cases hb : b = 0
    · subst hb
      obtain rfl : q = 0 := by omega
      go_wp2_with fail
      refine (awake_any _).mono ?_
      rintro e w7 ⟨rfl, hb7⟩
      go_wp2
      go_ret
      exact ⟨rfl, belowT HB6.out hb7⟩
    · have hbp : 0 < b := by omega
      go_wp2_with fail
      refine (awake_any _).mono ?_
      rintro e w7 ⟨rfl, hb7⟩
      go_wp2
      go_ret
      exact ⟨rfl, belowT HB6.out hb7⟩
  · have hap : 0 < a := by omega
    have hae : (a == 0) = false := beq_eq_false_iff_ne.2 ha
    by_cases hb : b = 0
    · subst hb
      obtain rfl : q = 0 := by omega
      go_wp2_with fail
      refine (awake_any _).mono ?_
      rintro e w7 ⟨rfl, hb7⟩
      go_wp2
      go_ret
      exact ⟨rfl, belowT HB6.out hb7⟩
    · have hbp : 0 < b := by omega
      have hbe : (b == 0) = false := beq_eq_false_iff_ne.2 hb
      have hX1 : 0 ≤ p * b := Int.mul_nonneg hp0 hb0'
      have hX2 : p * b ≤ 1000000000000000000 := by
        have h1 : p * b ≤ 1000000000 * b := Int.mul_le_mul_of_nonneg_right (by omega) hb0'
        omega
      have hY1 : 0 ≤ q * a := Int.mul_nonneg hq0 ha0
      have hY2 : q * a ≤ 1000000000000000000 := by
        have h1 : q * a ≤ 1000000000 * a := Int.mul_le_mul_of_nonneg_right (by omega) ha0
        omega
      have hl1 := HS1.out (by rw [HRI.out, HRK.out]) hap hbp
      have hl2 := HS2.out (by rw [HRI.out, HRK.out]) hap hbp
      have hwx : IntKind.i64.wrap (p * b) = p * b := by rw [IntKind.wrap_i64]; omega
      have hwy : IntKind.i64.wrap (q * a) = q * a := by rw [IntKind.wrap_i64]; omega
      have hwz : IntKind.i64.wrap (p * b - q * a) = p * b - q * a := by rw [IntKind.wrap_i64]; omega
      have hwu : IntKind.i64.wrap (q * a - p * b) = q * a - p * b := by rw [IntKind.wrap_i64]; omega
      obtain ⟨X, hX⟩ : ∃ X, p * b = X := ⟨_, rfl⟩
      obtain ⟨Y, hY⟩ : ∃ Y, q * a = Y := ⟨_, rfl⟩
      rw [hX] at hX1 hX2 hl1 hl2 hwx hwz hwu
      rw [hY] at hY1 hY2 hl1 hl2 hwy hwz hwu
      go_wp2
      go_region_held3 (fun w' => w'.cell? ⟨be, oe + i, none⟩ = some (.int .i64 p) ∧ w'.cell? ⟨be, oe + k, none⟩ = some (.int .i64 q)) (first | exact ⟨gp, gq⟩ | exact ⟨keepC hb7 gp, keepC hb7 gq⟩) (first | (go_at_call 25; refine (awake_any _).mono ?_; rintro e w7 ⟨rfl, hb7⟩))
      go_wp2
      go_ret
      exact ⟨rfl, belowT HB6.out (undrew0 hb7)⟩
end Go.Proofs.Ytblbbhenmhkknaa
