/- ClaimMore: the walk. -/
import Derived.Deep.DeepCutAuto
import Derived.Test.YtblbbhenmhkknaaYL5
import Derived.Test.YtblbbhenmhkknaaZ38b334
namespace Go.Proofs.Ytblbbhenmhkknaa
open Go.RowKit

set_option maxRecDepth 1000000 in
set_option maxHeartbeats 8000000 in
theorem more_any (lo hi : Int) (A U : Option Addr) (cs : List Clm) (us : List Int) (B cap capU x0 x1 x2 : Nat) (w : World) (hm : cs.length ≤ cap) (hcm : cap ≤ maxLen) (hok : ClmsOk cs) (hR : RdN 4 encClm w B A cs) (hB : B ≤ w.heap.size)
    (hU : Rd1 uv w B U us) (hul : us.length ≤ maxLen) (hub : ∀ x ∈ us, 0 ≤ x ∧ x ≤ 4294967295) (hx0 : x0 ≤ 4294967295) (hx1 : x1 ≤ 4294967295) (hx2 : x2 ≤ 4294967295) :
    Calls Try.prog 16 #[.agg #[.int .i64 lo, .int .i64 hi, .slice A cs.length cap], .slice U us.length capU, .agg #[.int .u32 x0, .int .u32 x1, .int .u32 x2]] w fun e w' => e = .returned (.bool true) ∧ Below w.heap.size w w' := by
  obtain ⟨i3, hi3, hz30, hz31, hz32⟩ := info_parts Try.info3
  obtain ⟨W1, hW1⟩ : ∃ W1, (w.alloc (.cells #[.int .i64 lo, .int .i64 hi, .slice A cs.length cap] 42)).alloc (.cells #[.int .u32 x0, .int .u32 x1, .int .u32 x2] 89) = W1 := ⟨_, rfl⟩
  have hb0 : Below w.heap.size w W1 := by rw [← hW1]; exact belowA (belowA (belowR _) _) _
  have p0 : W1.cell? ⟨w.heap.size, 0, none⟩ = some (.int .i64 lo) := by rw [← hW1]; clear hW1; go_simp
  have p1 : W1.cell? ⟨w.heap.size, 1, none⟩ = some (.int .i64 hi) := by rw [← hW1]; clear hW1; go_simp
  have p2 : W1.cell? ⟨w.heap.size, 2, none⟩ = some (.slice A cs.length cap) := by rw [← hW1]; clear hW1; go_simp
  have q0 : W1.cell? ⟨w.heap.size + 1, 0, none⟩ = some (.int .u32 x0) := by rw [← hW1]; clear hW1; go_simp
  have q1 : W1.cell? ⟨w.heap.size + 1, 1, none⟩ = some (.int .u32 x1) := by rw [← hW1]; clear hW1; go_simp
  have q2 : W1.cell? ⟨w.heap.size + 1, 2, none⟩ = some (.int .u32 x2) := by rw [← hW1]; clear hW1; go_simp
  have HB0 := Lib.hid hb0
  have hz1 : w.heap.size + 1 < W1.heap.size := lt_of_cell q0
  have hRr := right_any lo hi A cs B cap W1 hm hcm hok (hR.below hb0 hB) (by omega)
  have HR := Lib.hid (hR.below hb0 hB)
  have HU := Lib.hid (hU.below hb0 hB)
  cases hb : rightB lo hi cs
  · rw [hb] at hRr
    have HRR := Lib.hid hRr
    clear hRr hb
    go_enter Try.func16, Try.ntmps16
    go_wp2_with fail
    refine HRR.out.mono ?_
    rintro e w1 ⟨rfl, hb1⟩
    have HB1 := Lib.hid hb1
    clear hb1
    go_wp2_with fail
    refine (awake_any _).mono ?_
    rintro e w2 ⟨rfl, hb2⟩
    go_wp2
    go_ret
    exact ⟨rfl, belowT (belowT HB0.out HB1.out) hb2⟩
  rw [hb] at hRr
  have hE : estErr lo hi cs = 0 := by simpa [rightB] using hb
  have hest := est_ok hE
  have hle8 := hest.len.2
  have hge1 := hest.len.1
  have ht := any_truth (us := us) hE
  have hto := (truthE_ok ht).1
  obtain ⟨P, hP⟩ : ∃ P, anyP lo hi us = P := ⟨_, rfl⟩
  obtain ⟨ds, hds⟩ : ∃ ds, anyD cs us cs.length = ds := ⟨_, rfl⟩
  have hdl : ds.length = cs.length := by rw [← hds]; exact anyD_len _ _ _
  have hany := fun W (hR : RdN 4 encClm W B A cs) (hB : B ≤ W.heap.size) (hU : Rd1 uv W B U us) => any_any lo hi A U cs us B cap capU W hR hB hU hul hub hE
  unfold AnyPost at hany
  rw [hP, hds] at ht hto hany
  have hsp0 := hest.span.1
  have hsp2 := hest.span.2.2
  have hpr0 := hto.pro.1
  have hpr1 := hto.pro.2
  -- the richer truth
  have hbP := amongI_bd (n := (x0 : Int)) hpr1
  obtain ⟨P', hP'⟩ : ∃ P', amongI P hi x0 = P' := ⟨_, rfl⟩
  rw [hP'] at hbP
  have htoR := hto.rich hbP.1 hbP.2
  -- the greater claim
  have hmi : x1 % cs.length < cs.length := Nat.mod_lt _ (by omega)
  obtain ⟨i, hi0⟩ : ∃ i, x1 % cs.length = i := ⟨_, rfl⟩
  rw [hi0] at hmi
  have hmod : (x1 : Int) % (cs.length : Int) = (i : Int) := by rw [← hi0]; simp
  obtain ⟨ci, hci⟩ : ∃ c, cs[i]? = some c := ⟨_, List.getElem?_eq_getElem hmi⟩
  obtain ⟨d, hd⟩ : ∃ d, ds[i]? = some d := ⟨_, List.getElem?_eq_getElem (by omega)⟩
  have hcd := hto.cents i ci d hci hd
  have hce := hest.each ci (List.mem_of_getElem? hci)
  have hbX := amongI_bd (n := (x2 : Int)) hcd.2
  obtain ⟨X, hX⟩ : ∃ X, amongI d ci.hi x2 = X := ⟨_, rfl⟩
  rw [hX] at hbX
  have htoB := hto.big (x := X) hci (by omega) hbX.2
  have hXr := hbX.1
  have hrow : ∀ k, k < cs.length → ∃ a b c, (pays (jl cs ds) P)[k]? = some a ∧ (pays (jl cs ds) P')[k]? = some b ∧ (pays (jl cs (ds.set i X)) P)[k]? = some c ∧ a ≤ b ∧ (k = i → a ≤ c) ∧ (k ≠ i → c ≤ a) := fun k hk => by
    obtain ⟨ck, hck⟩ : ∃ c, cs[k]? = some c := ⟨_, List.getElem?_eq_getElem hk⟩
    obtain ⟨dk, hdk⟩ : ∃ d, ds[k]? = some d := ⟨_, List.getElem?_eq_getElem (by omega)⟩
    have hj := jl_at (ds := ds) hck
    rw [getD_at hdk] at hj
    have hj2 := jl_at (ds := ds.set i X) hck
    rw [getD_at (set_at hdk)] at hj2
    refine ⟨_, _, _, pays_get hj, pays_get hj, pays_get hj2, more_rich hto hbP.1 hck hdk, fun e => ?_, fun e => ?_⟩
    · subst e
      rw [hd] at hdk
      injection hdk with hdk
      subst hdk
      rw [if_pos rfl]
      exact more_own hto hck hd hXr
    · rw [if_neg (fun e2 => e e2.symm)]
      exact more_other hto hd hXr hck hdk (fun e2 => e e2.symm)
  have hdl2 : (ds.set i X).length = cs.length := by rw [List.length_set]; exact hdl
  obtain ⟨ds2, hds2⟩ : ∃ ds2, ds.set i X = ds2 := ⟨_, rfl⟩
  rw [hds2] at hrow htoB hdl2
  have hpy := fun (P : Int) (ds : List Int) (hl : ds.length = cs.length) (ht : truthE lo hi cs P ds = 0) W A2 cap2 (hR : RdN 4 encClm W W.heap.size A cs) (hD : Rd1 iv W W.heap.size A2 ds) => pays_yes lo hi A A2 cs W.heap.size cap cap2 P ds W hm hcm hok hR (Nat.le_refl _) hD ht
  have hpl : ∀ (P : Int) (ds : List Int), (pays (jl cs ds) P).length = cs.length := fun P ds => by rw [pays_len, jl_len]
  have hpA := hpy P ds hdl ht
  have hpB := hpy P' ds hdl (truthE_mk htoR)
  have hpC := hpy P ds2 hdl2 (truthE_mk htoB)
  rw [hdl] at hpA hpB
  rw [hdl2] at hpC
  unfold PaysYes at hpA hpB hpC
  have hla := hpl P ds
  have hlb := hpl P' ds
  have hlc := hpl P ds2
  obtain ⟨PA, hPA⟩ : ∃ l, pays (jl cs ds) P = l := ⟨_, rfl⟩
  obtain ⟨PB, hPB⟩ : ∃ l, pays (jl cs ds) P' = l := ⟨_, rfl⟩
  obtain ⟨PC, hPC⟩ : ∃ l, pays (jl cs ds2) P = l := ⟨_, rfl⟩
  rw [hPA] at hpA hrow hla
  rw [hPB] at hpB hrow hlb
  rw [hPC] at hpC hrow hlc
  have HM1 := Lib.hid (fun W => among_any P hi x0 W (by omega) hpr1 hsp2 (by omega) (by omega))
  have HM2 := Lib.hid (fun W => among_any d ci.hi x2 W (by omega) hcd.2 hce.2.2.2.2.2 (by omega) (by omega))
  rw [hP'] at HM1
  rw [hX] at HM2
  have HRR := Lib.hid hRr
  have HANY := Lib.hid hany
  have HPA := Lib.hid hpA
  have HPB := Lib.hid hpB
  have HPC := Lib.hid hpC
  have HLA := Lib.hid hla
  have HLB := Lib.hid hlb
  have HLC := Lib.hid hlc
  have HROW := Lib.hid hrow
  have HCI := Lib.hid hci
  have HD := Lib.hid hd
  have HDL := Lib.hid hdl
  have HDL2 := Lib.hid hdl2
  have HDS2 := Lib.hid hds2
  have hiz : (i : Int) < (cs.length : Int) := by omega
  have hi00 : (0 : Int) ≤ (i : Int) := by omega
  obtain ⟨chi, hchi⟩ : ∃ h, ci.hi = h := ⟨_, rfl⟩
  rw [hchi] at HM2
  have HCHI := Lib.hid hchi
  clear hRr hb hest ht hto hany hpy hpl hpA hpB hpC hla hlb hlc hrow hci hd hcd hce hbX htoB htoR hbP hE hP hds hds2 hPA hPB hPC hP' hX hi0 hdl hdl2 hb0 hXr hchi hR hU hsp0 hsp2 hpr0 hpr1
  go_enter Try.func16, Try.ntmps16
  go_wp2_with fail
  refine HRR.out.mono ?_
  rintro e w1 ⟨rfl, hb1⟩
  have s0 := keepC hb1 p0
  have s1 := keepC hb1 p1
  have s2 := keepC hb1 p2
  have hz2 := hb1.size
  have HB1 := Lib.hid hb1
  have HR1 := Lib.hid (HR.out.below hb1 (by omega))
  have HU1 := Lib.hid (HU.out.below hb1 (by omega))
  clear hb1 HR HU p0 p1 p2
  go_wp2_with fail
  refine (HANY.out _ HR1.out (by omega) HU1.out).mono ?_
  rintro e w2 ⟨A2, cap2, rfl, hown2, hb2⟩
  have hz3 := hb2.size
  have HD2 := Lib.hid (own_rd1' hown2 HDL.out)
  have HR2 := Lib.hid (HR1.out.below hb2 (by omega))
  have r0 := keepC hb2 s0
  have r1 := keepC hb2 s1
  have r2 := keepC hb2 s2
  have u0 := keepC hb2 (keepC HB1.out q0)
  have u1 := keepC hb2 (keepC HB1.out q1)
  have u2 := keepC hb2 (keepC HB1.out q2)
  have HB2 := Lib.hid (belowT HB1.out hb2)
  clear hb2 hown2 s0 s1 s2 q0 q1 q2 HANY HB1 HR1 HU1
  go_upto_region 4 with fail
  obtain ⟨W3, hW3⟩ : ∃ W, w2.alloc (.cells #[.int .i64 P, .slice A2 cs.length cap2] 44) = W := ⟨_, rfl⟩
  have hb23 : Below w2.heap.size w2 W3 := by rw [← hW3]; exact belowA (belowR _) _
  have t0 : W3.cell? ⟨w2.heap.size, 0, none⟩ = some (.int .i64 P) := by rw [← hW3]; clear hW3; go_simp
  have t1 : W3.cell? ⟨w2.heap.size, 1, none⟩ = some (.slice A2 cs.length cap2) := by rw [← hW3]; clear hW3; go_simp
  have k0 := keepC hb23 r0
  have k1 := keepC hb23 r1
  have k2 := keepC hb23 r2
  have v0 := keepC hb23 u0
  have v1 := keepC hb23 u1
  have v2 := keepC hb23 u2
  have HD3 := Lib.hid (HD2.out.below hb23 (Nat.le_refl _))
  have HR3 := Lib.hid (HR2.out.below hb23 (by omega))
  have HB3 := Lib.hid (belowT HB2.out hb23)
  have hz4 : w2.heap.size < W3.heap.size := lt_of_cell t0
  rw [hW3]
  clear hW3 hb23 r0 r1 r2 u0 u1 u2 HD2 HR2 HB2
  go_cut [8, 9] (fun s8 s9 wx => ∃ g8 g9 : Nat, s8 = .pointer (some ⟨g8, 0, none⟩) ∧ s9 = .pointer (some ⟨g9, 0, none⟩) ∧ g8 ≠ g9 ∧ W3.heap.size ≤ g8 ∧ W3.heap.size ≤ g9 ∧ wx.cell? ⟨g8, 0, none⟩ = some (.int .i64 P) ∧ wx.cell? ⟨g8, 1, none⟩ = some (.slice A2 cs.length cap2) ∧ wx.cell? ⟨g9, 0, none⟩ = some (.int .i64 P) ∧ wx.cell? ⟨g9, 1, none⟩ = some (.slice A2 cs.length cap2) ∧ (∀ o, wx.frozen? ⟨g8, o, none⟩ = false) ∧ (∀ o, wx.frozen? ⟨g9, o, none⟩ = false) ∧ Below W3.heap.size W3 wx)
  case first =>
    go_region_held3 (fun w' => w'.cell? ⟨w2.heap.size, 0, none⟩ = some (.int .i64 P) ∧ w'.cell? ⟨w2.heap.size, 1, none⟩ = some (.slice A2 cs.length cap2)) (first | exact ⟨t0, t1⟩ | exact ⟨keepA t0 _, keepA t1 _⟩ | exact ⟨keepA (keepA t0 _) _, keepA (keepA t1 _) _⟩ | go_keep) (fail)
    all_goals go_wp2_with fail
    all_goals go_meet
    all_goals first
      | exact ⟨W3.heap.size, W3.heap.size + 1, rfl, rfl, by omega, Nat.le_refl _, by omega, by go_simp, by go_simp, by go_simp, by go_simp, fun o => by go_simp, fun o => by go_simp, belowDr (belowA (belowA (belowR _) _) _)⟩
      | exact ⟨W3.heap.size + 1, W3.heap.size, rfl, rfl, by omega, by omega, Nat.le_refl _, by go_simp, by go_simp, by go_simp, by go_simp, fun o => by go_simp, fun o => by go_simp, belowDr (belowA (belowA (belowR _) _) _)⟩
  case rest =>
    obtain ⟨g8, g9, rfl, rfl, h89, hg8, hg9, a0, a1, c0, c1, fa, fc, hbx⟩ := hcut
    obtain ⟨W4, rfl⟩ : ∃ W, W = wc := ⟨_, rfl⟩
    clear hW1
    have t0 := keepC hbx t0
    have t1 := keepC hbx t1
    have k0 := keepC hbx k0
    have k1 := keepC hbx k1
    have k2 := keepC hbx k2
    have v0 := keepC hbx v0
    have v1 := keepC hbx v1
    have v2 := keepC hbx v2
    have HD4 := Lib.hid (HD3.out.below hbx (by omega))
    have HR4 := Lib.hid (HR3.out.below hbx (by omega))
    have HB4 := Lib.hid (belowT HB3.out hbx)
    have hl8 : g8 < W4.heap.size := lt_of_cell a0
    have hl9 : g9 < W4.heap.size := lt_of_cell c0
    have FA := Lib.hid fa
    have FC := Lib.hid fc
    have hz5 := hbx.size
    clear hbx fa fc HD3 HR3 HB3
    have hne8a : w.heap.size ≠ g8 := by omega
    have hne8b : w2.heap.size ≠ g8 := by omega
    have hne8c : w.heap.size + 1 ≠ g8 := by omega
    have f80 := FA.out 0
    have hwx0 : IntKind.i64.wrap (x0 : Int) = (x0 : Int) := by rw [IntKind.wrap_i64]; omega
    have hwx2 : IntKind.i64.wrap (x2 : Int) = (x2 : Int) := by rw [IntKind.wrap_i64]; omega
    go_wp2
    go_region_held3 (fun w' => w'.cell? ⟨w2.heap.size, 0, none⟩ = some (.int .i64 P) ∧ w'.cell? ⟨w.heap.size, 1, none⟩ = some (.int .i64 hi) ∧ w'.cell? ⟨w.heap.size + 1, 0, none⟩ = some (.int .u32 x0)) (first | exact ⟨t0, k1, v0⟩ | exact ⟨keepS (keepC hb6 (keepC hb5 t0)) hne8b, keepS (keepC hb6 (keepC hb5 k1)) hne8a, keepS (keepC hb6 (keepC hb5 v0)) hne8c⟩ | exact ⟨keepC hb6 (keepC hb5 t0), keepC hb6 (keepC hb5 k1), keepC hb6 (keepC hb5 v0)⟩ | exact ⟨keepC hb5 t0, keepC hb5 k1, keepC hb5 v0⟩) (first | (go_at_call 51; ((with_reducible refine (span_any P hi _).mono ?_); rintro e w5 ⟨rfl, hb5⟩)) | (go_at_call 53; ((with_reducible refine (HM1.out _).mono ?_); rintro e w6 ⟨rfl, hb6⟩; have b0 : w6.cell? ⟨g8, 0, none⟩ = some (.int .i64 P) := keepC hb6 (keepC hb5 a0); have bf : w6.frozen? ⟨g8, 0, none⟩ = false := (keepF hb6 (keepC hb5 a0)).trans ((keepF hb5 a0).trans f80))))
    have hB46 : Below W4.heap.size W4 w6 := belowT (undrew0 hb5) hb6
    have m0 := keepS (u := .int .i64 P') (k := 0) (keepC hB46 t0) hne8b
    have m1 := keepS (u := .int .i64 P') (k := 0) (keepC hB46 t1) hne8b
    have n0 := keepS (u := .int .i64 P') (k := 0) (keepC hB46 k0) hne8a
    have n1 := keepS (u := .int .i64 P') (k := 0) (keepC hB46 k1) hne8a
    have n2 := keepS (u := .int .i64 P') (k := 0) (keepC hB46 k2) hne8a
    have o1 := keepS (u := .int .i64 P') (k := 0) (keepC hB46 v1) hne8c
    have o2 := keepS (u := .int .i64 P') (k := 0) (keepC hB46 v2) hne8c
    have d0 := keepS (u := .int .i64 P') (k := 0) (keepC hB46 c0) (Ne.symm h89)
    have d1 := keepS (u := .int .i64 P') (k := 0) (keepC hB46 c1) (Ne.symm h89)
    have e1 : (w6.setCell ⟨g8, 0, none⟩ (.int .i64 P')).cell? ⟨g8, 1, none⟩ = some (.slice A2 cs.length cap2) := by
      have := keepC hB46 a1
      go_simp
    have e0 : (w6.setCell ⟨g8, 0, none⟩ (.int .i64 P')).cell? ⟨g8, 0, none⟩ = some (.int .i64 P') := by go_simp
    have fzc : ∀ o, (w6.setCell ⟨g8, 0, none⟩ (.int .i64 P')).frozen? ⟨g9, o, none⟩ = false := fun o => by
      rw [World.frozen?_setCell]
      exact (World.frozen?_of_block (w := W4) (a := ⟨g9, o, none⟩) (hB46.block g9 hl9)).trans (FC.out o)
    have hBst : ∀ (b : Nat), b < W4.heap.size → b ≠ g8 → ∀ (o : Nat) (v : Value), W4.cell? ⟨b, o, none⟩ = some v → (w6.setCell ⟨g8, 0, none⟩ (.int .i64 P')).cell? ⟨b, o, none⟩ = some v := fun b hb hne o v h => keepS (keepC hB46 h) hne
    have hD5 : Rd1 iv (w6.setCell ⟨g8, 0, none⟩ (.int .i64 P')) w2.heap.size A2 ds := fun j x hx => by
      obtain ⟨b, off, e, hb, hc⟩ := HD4.out j x hx
      exact ⟨b, off, e, hb, hBst b (by omega) (by omega) _ _ hc⟩
    have hR5 : RdN 4 encClm (w6.setCell ⟨g8, 0, none⟩ (.int .i64 P')) B A cs := fun j x hx => by
      obtain ⟨b, off, e, hb, hc⟩ := HR4.out j x hx
      exact ⟨b, off, e, hb, fun q u hu => hBst b (by omega) (by omega) _ _ (hc q u hu)⟩
    have hB5 : Below W1.heap.size W1 (w6.setCell ⟨g8, 0, none⟩ (.int .i64 P')) := belowS (belowT HB4.out hB46) (by simp; omega) _
    have hz6 : W4.heap.size ≤ (w6.setCell ⟨g8, 0, none⟩ (.int .i64 P')).heap.size := by simp only [World.size_setCell]; exact hB46.size
    have HD5 := Lib.hid hD5
    have HR5 := Lib.hid hR5
    have HB5 := Lib.hid hB5
    have HFC := Lib.hid fzc
    clear hb5 hb6 hB46 b0 bf t0 t1 k0 k1 k2 v0 v1 v2 a0 a1 c0 c1 HD4 HR4 HB4 FA FC f80 hBst hD5 hR5 hB5 fzc
    generalize w6.setCell ⟨g8, 0, none⟩ (.int .i64 P') = W6 at *
    obtain ⟨bd, od, rfl, hbdl, fd⟩ := HD5.out i d HD.out
    have hwx1 : IntKind.i64.wrap (x1 : Int) = (x1 : Int) := by rw [IntKind.wrap_i64]; omega
    have hx10 : (0 : Int) ≤ (x1 : Int) := by omega
    have hlit : (W6.alloc (.cells #[] 3)).ownsRow W6.heap.size 3 1 (.slice (some ⟨W6.heap.size, 0, none⟩) 0 0) 0 [] := World.ownsRow_lit W6 #[] 0 (Nat.le_refl _) (Nat.zero_le _) rfl
    have hnews : ∀ j u, (ds.map iv)[j]? = some u → (W6.alloc (.cells #[] 3)).cell? ((⟨bd, od, none⟩ : Addr).add j) = some u := fun j u hu => by
      rw [List.getElem?_map] at hu
      cases hx : ds[j]? with
      | none => rw [hx] at hu; simp at hu
      | some x =>
        rw [hx] at hu
        simp only [Option.map_some, Option.some.injEq] at hu
        subst hu
        obtain ⟨b', o', ee, _, hc⟩ := HD5.out j x hx
        injection ee with ee
        injection ee with ee1 ee2
        subst ee1 ee2
        have e : ((⟨bd, od, none⟩ : Addr).add j) = ⟨bd, od + j, none⟩ := by
          unfold Addr.add
          rcases Nat.eq_zero_or_pos j with rfl | hj
          · rfl
          · rw [if_neg (by omega)]
        rw [e]
        exact keepA hc _
    have hdlen : (ds.map iv).length = cs.length * 1 := by rw [List.length_map, HDL.out, Nat.mul_one]
    have honec : ∀ u ∈ ds.map iv, u.oneCell' = true := fun u hu => by
      obtain ⟨x, _, rfl⟩ := List.mem_map.1 hu
      rfl
    have HLIT := Lib.hid hlit
    have HNEWS := Lib.hid hnews
    have HDLEN := Lib.hid hdlen
    have HONE := Lib.hid honec
    clear hlit hnews hdlen honec
    have m1A := fun ob => keepA m1 ob
    go_wp2_with (at_builtin; refine wpList_append_own _ rfl _ _ 32 rfl W6.heap.size 3 i3 (.int .i64 0) 1 8 Try.underlying32 hi3 hz30 hz31 hz32 rfl (by decide) _ _ _ rfl HLIT.out ⟨bd, od, none⟩ cs.length cap2 (ds.map iv) rfl HDLEN.out ?c1 ?c2 ?c3 ?c4 ?c5 ?_)
    case c1 => exact HNEWS.out
    case c2 => exact HONE.out
    case c3 => unfold maxLen; omega
    case c4 => omega
    case c5 => simp
    intro v' w7 hown7 hgrow _
    obtain ⟨gb, capb, rfl, hgb, hgb', _⟩ := own_form hown7 hge1
    have hB67 : Below W6.heap.size W6 w7 := grownB HLIT.out hgrow (Nat.le_refl _) (belowA (belowR _) _)
    have m0 := keepC hB67 m0
    have m1 := keepC hB67 m1
    have n0 := keepC hB67 n0
    have n1 := keepC hB67 n1
    have n2 := keepC hB67 n2
    have o2 := keepC hB67 o2
    have d0 := keepC hB67 d0
    have d1 := keepC hB67 d1
    have e0 := keepC hB67 e0
    have e1 := keepC hB67 e1
    have hf9 : ∀ o, w7.frozen? ⟨g9, o, none⟩ = false := fun o => (World.frozen?_of_block (w := W6) (a := ⟨g9, o, none⟩) (hB67.block g9 (by omega))).trans (HFC.out o)
    have f91 := hf9 1
    have fd := keepC hB67 fd
    have HD7 := Lib.hid (HD5.out.below hB67 (by omega))
    have HR7 := Lib.hid (HR5.out.below hB67 (by omega))
    have HB7 := Lib.hid (belowT HB5.out hB67)
    have HO7 := Lib.hid hown7
    have hz7 := hB67.size
    clear m1A hgrow hown7 hB67 hf9 HD5 HR5 HB5 HFC HLIT HNEWS o1
    go_upto_region 8 with fail
    have hbn9 : ∀ b, b < W4.heap.size → b ≠ g9 → ∀ (o : Nat) (v : Value), w7.cell? ⟨b, o, none⟩ = some v → (w7.setCell ⟨g9, 1, none⟩ (.slice (some ⟨gb, 0, none⟩) cs.length capb)).cell? ⟨b, o, none⟩ = some v := fun b _ hne o v h => keepS h hne
    have m0 := hbn9 _ (by omega) (by omega) _ _ m0
    have m1 := hbn9 _ (by omega) (by omega) _ _ m1
    have n0 := hbn9 _ (by omega) (by omega) _ _ n0
    have n1 := hbn9 _ (by omega) (by omega) _ _ n1
    have n2 := hbn9 _ (by omega) (by omega) _ _ n2
    have o2 := hbn9 _ (by omega) (by omega) _ _ o2
    have e0 := hbn9 _ (by omega) (by omega) _ _ e0
    have e1 := hbn9 _ (by omega) (by omega) _ _ e1
    have fd := hbn9 _ (by omega) (by omega) _ _ fd
    have d1' : (w7.setCell ⟨g9, 1, none⟩ (.slice (some ⟨gb, 0, none⟩) cs.length capb)).cell? ⟨g9, 1, none⟩ = some (.slice (some ⟨gb, 0, none⟩) cs.length capb) := by go_simp
    have d0' : (w7.setCell ⟨g9, 1, none⟩ (.slice (some ⟨gb, 0, none⟩) cs.length capb)).cell? ⟨g9, 0, none⟩ = some (.int .i64 P) := by go_simp
    have hD8 : Rd1 iv (w7.setCell ⟨g9, 1, none⟩ (.slice (some ⟨gb, 0, none⟩) cs.length capb)) w2.heap.size (some ⟨bd, od, none⟩) ds := fun j x hx => by
      obtain ⟨b, off, e, hb, hc⟩ := HD7.out j x hx
      exact ⟨b, off, e, hb, hbn9 b (by omega) (by omega) _ _ hc⟩
    have hR8 : RdN 4 encClm (w7.setCell ⟨g9, 1, none⟩ (.slice (some ⟨gb, 0, none⟩) cs.length capb)) B A cs := fun j x hx => by
      obtain ⟨b, off, e, hb, hc⟩ := HR7.out j x hx
      exact ⟨b, off, e, hb, fun q u hu => hbn9 b (by omega) (by omega) _ _ (hc q u hu)⟩
    have hB8 : Below W1.heap.size W1 (w7.setCell ⟨g9, 1, none⟩ (.slice (some ⟨gb, 0, none⟩) cs.length capb)) := belowS HB7.out (by simp; omega) _
    have hO8 := ownsRow_setCell_below HO7.out (a := ⟨g9, 1, none⟩) (by simp; omega) (.slice (some ⟨gb, 0, none⟩) cs.length capb)
    have hz8 : w7.heap.size ≤ (w7.setCell ⟨g9, 1, none⟩ (.slice (some ⟨gb, 0, none⟩) cs.length capb)).heap.size := by simp only [World.size_setCell]; exact Nat.le_refl _
    have HD8 := Lib.hid hD8
    have HR8 := Lib.hid hR8
    have HB8 := Lib.hid hB8
    have HO8 := Lib.hid hO8
    clear hbn9 hD8 hR8 hB8 hO8 HD7 HR7 HB7 HO7 d0 d1 f91
    generalize w7.setCell ⟨g9, 1, none⟩ (.slice (some ⟨gb, 0, none⟩) cs.length capb) = W8 at *
    obtain ⟨bc, oc, rfl, hbcl, _, _, _, ec⟩ := clmAt HR8.out HCI.out
    rw [HCHI.out] at ec
    have hgc := HO8.out.cellAt i (by omega)
    rw [List.getElem?_map, HD.out] at hgc
    simp only [Option.map_some] at hgc
    have hgf := HO8.out.frozenAt i
    have hneb : ∀ b, b < W6.heap.size → b ≠ gb := fun b hb => by omega
    have b1 := hneb g9 (by omega)
    have b2 := hneb w2.heap.size (by omega)
    have b3 := hneb bd (by omega)
    have b4 := hneb w.heap.size (by omega)
    have b5 := hneb bc (by omega)
    have b6 := hneb (w.heap.size + 1) (by omega)
    have HNEB := Lib.hid hneb
    clear hneb
    go_region_held3 (fun w' => w'.cell? ⟨g9, 1, none⟩ = some (.slice (some ⟨gb, 0, none⟩) cs.length capb) ∧ w'.cell? ⟨w2.heap.size, 1, none⟩ = some (.slice (some ⟨bd, od, none⟩) cs.length cap2) ∧ w'.cell? ⟨bd, od + i, none⟩ = some (.int .i64 d) ∧ w'.cell? ⟨w.heap.size, 2, none⟩ = some (.slice (some ⟨bc, oc, none⟩) cs.length cap) ∧ w'.cell? ⟨bc, oc + i * 4 + 3, none⟩ = some (.int .i64 chi) ∧ w'.cell? ⟨w.heap.size + 1, 2, none⟩ = some (.int .u32 x2)) (first | exact ⟨d1', m1, fd, n2, ec, o2⟩ | exact ⟨keepS (keepC hb10 (keepC hb9 d1')) b1, keepS (keepC hb10 (keepC hb9 m1)) b2, keepS (keepC hb10 (keepC hb9 fd)) b3, keepS (keepC hb10 (keepC hb9 n2)) b4, keepS (keepC hb10 (keepC hb9 ec)) b5, keepS (keepC hb10 (keepC hb9 o2)) b6⟩ | exact ⟨keepC hb10 (keepC hb9 d1'), keepC hb10 (keepC hb9 m1), keepC hb10 (keepC hb9 fd), keepC hb10 (keepC hb9 n2), keepC hb10 (keepC hb9 ec), keepC hb10 (keepC hb9 o2)⟩ | exact ⟨keepC hb9 d1', keepC hb9 m1, keepC hb9 fd, keepC hb9 n2, keepC hb9 ec, keepC hb9 o2⟩) (first | (go_at_call 51; ((with_reducible refine (span_any d chi _).mono ?_); rintro e w9 ⟨rfl, hb9⟩)) | (go_at_call 53; ((with_reducible refine (HM2.out _).mono ?_); rintro e w10 ⟨rfl, hb10⟩; have z0 : w10.cell? ⟨gb, i, none⟩ = some (.int .i64 d) := keepC hb10 (keepC hb9 hgc); have zf : w10.frozen? ⟨gb, i, none⟩ = false := (keepF hb10 (keepC hb9 hgc)).trans ((keepF hb9 hgc).trans hgf))))
    have hB810 : Below W8.heap.size W8 w10 := belowT (undrew0 hb9) hb10
    have hO9 := ((own_below HO8.out hB810).stored i (iv X)).1
    rw [← List.map_set, HDS2.out] at hO9
    have hkp : ∀ b, b < W6.heap.size → ∀ (o : Nat) (v : Value), W8.cell? ⟨b, o, none⟩ = some v → (w10.setCell ⟨gb, i, none⟩ (iv X)).cell? ⟨b, o, none⟩ = some v := fun b hb o v h => keepS (keepC hB810 h) (HNEB.out b hb)
    have m0 := hkp _ (by omega) _ _ m0
    have m1 := hkp _ (by omega) _ _ m1
    have n0 := hkp _ (by omega) _ _ n0
    have n1 := hkp _ (by omega) _ _ n1
    have n2 := hkp _ (by omega) _ _ n2
    have e0 := hkp _ (by omega) _ _ e0
    have e1 := hkp _ (by omega) _ _ e1
    have d0' := hkp _ (by omega) _ _ d0'
    have d1' := hkp _ (by omega) _ _ d1'
    have hz10 := hB810.size
    have hD9 : Rd1 iv (w10.setCell ⟨gb, i, none⟩ (iv X)) (w10.setCell ⟨gb, i, none⟩ (iv X)).heap.size (some ⟨bd, od, none⟩) ds := fun j x hx => by
      obtain ⟨b, off, e, hb, hc⟩ := HD8.out j x hx
      exact ⟨b, off, e, by simp only [World.size_setCell]; omega, hkp b (by omega) _ _ hc⟩
    have hR9 : RdN 4 encClm (w10.setCell ⟨gb, i, none⟩ (iv X)) (w10.setCell ⟨gb, i, none⟩ (iv X)).heap.size (some ⟨bc, oc, none⟩) cs := fun j x hx => by
      obtain ⟨b, off, e, hb, hc⟩ := HR8.out j x hx
      exact ⟨b, off, e, by simp only [World.size_setCell]; omega, fun q u hu => hkp b (by omega) _ _ (hc q u hu)⟩
    have hB9 : Below W1.heap.size W1 (w10.setCell ⟨gb, i, none⟩ (iv X)) := belowS (belowT HB8.out hB810) (by simp; omega) _
    have hE9 : Rd1 iv (w10.setCell ⟨gb, i, none⟩ (iv X)) (w10.setCell ⟨gb, i, none⟩ (iv X)).heap.size (some ⟨gb, 0, none⟩) ds2 := own_rd1' hO9 HDL2.out
    have HD9 := Lib.hid hD9
    have HR9 := Lib.hid hR9
    have HB9 := Lib.hid hB9
    have HE9 := Lib.hid hE9
    clear hb9 hb10 hB810 hO9 hkp hD9 hR9 hB9 hE9 z0 zf hgc hgf HD8 HR8 HB8 HO8 fd ec o2
    generalize w10.setCell ⟨gb, i, none⟩ (iv X) = W9 at *
    go_wp2_with fail
    refine (HPA.out W9 _ _ HR9.out HD9.out).mono ?_
    rintro e w11 ⟨A11, cap11, rfl, hown11, hb11⟩
    have n0 := keepC hb11 n0
    have n1 := keepC hb11 n1
    have n2 := keepC hb11 n2
    have e0 := keepC hb11 e0
    have e1 := keepC hb11 e1
    have d0' := keepC hb11 d0'
    have d1' := keepC hb11 d1'
    have HQ11 := Lib.hid (own_rd1' hown11 HLA.out)
    have HB11 := Lib.hid hb11
    clear hown11 hb11 m0 m1
    go_wp2_with fail
    refine (HPB.out w11 _ _ (rdN_j HR9.out HB11.out) ((HD9.out.below HB11.out (Nat.le_refl _)).more HB11.out.size)).mono ?_
    rintro e w12 ⟨A12, cap12, rfl, hown12, hb12⟩
    have n0 := keepC hb12 n0
    have n1 := keepC hb12 n1
    have n2 := keepC hb12 n2
    have d0' := keepC hb12 d0'
    have d1' := keepC hb12 d1'
    have HQ12 := Lib.hid (own_rd1' hown12 HLB.out)
    have HB12 := Lib.hid (belowT HB11.out hb12)
    have HQ11b := Lib.hid (HQ11.out.below hb12 (Nat.le_refl _))
    have hz12 := hb12.size
    clear hown12 hb12 e0 e1 HQ11
    go_wp2_with fail
    refine (HPC.out w12 _ _ (rdN_j HR9.out HB12.out) ((HE9.out.below HB12.out (Nat.le_refl _)).more HB12.out.size)).mono ?_
    rintro e w13 ⟨A13, cap13, rfl, hown13, hb13⟩
    have n2 := keepC hb13 n2
    have hz13 := hb13.size
    have HQ13 := Lib.hid (own_rd1' hown13 HLC.out)
    have HQ12b := Lib.hid (HQ12.out.below hb13 (Nat.le_refl _))
    have HQ11c := Lib.hid (HQ11b.out.below hb13 (by omega))
    have HBF : Hid (Below w.heap.size w w13) := Lib.hid (belowT (belowT (belowT HB0.out HB9.out) HB12.out) hb13)
    clear hown13 hb13 n0 n1 d0' d1' HQ11b HQ12
    go_wp2
    go_loopw [20] (fun vi wr => ∃ k : Nat, k ≤ cs.length ∧ vi = .int .i64 k ∧ Hid (Below w13.heap.size w13 wr)) (fun vi _ => cs.length - (intOf vi).toNat)
    case atStart => exact ⟨0, Nat.zero_le _, rfl, Lib.hid (belowR _)⟩
    case round =>
      obtain ⟨k, hk, rfl, HBR⟩ := hrel
      by_cases hlt : k < cs.length
      · obtain ⟨a, b, c, ha, hb, hc, hab, hac, hca⟩ := HROW.out k hlt
        obtain ⟨ba, oa, rfl, _, ga⟩ := (HQ11c.out.below HBR.out (by omega)) k a ha
        obtain ⟨bb, ob, rfl, _, gb2⟩ := (HQ12b.out.below HBR.out (by omega)) k b hb
        obtain ⟨bcc, occ, rfl, _, gc⟩ := (HQ13.out.below HBR.out (by omega)) k c hc
        have hkz : (k : Int) < (cs.length : Int) := by omega
        have hk0 : (0 : Int) ≤ (k : Int) := by omega
        have h1 : decide (b < a) = false := by simp; omega
        clear ha hb hc
        by_cases hki : k = i
        · have h2 : decide (c < a) = false := by have := hac hki; simp; omega
          have h3 : ((k : Int) == (i : Int)) = true := beq_iff_eq.2 (by omega)
          have h4 : ((k : Int) != (i : Int)) = false := by simp; omega
          clear hac hca hki
          go_wp2
          go_quiet (fail)
          go_wp2
          go_roundw
          case rel => exact ⟨k + 1, by omega, by go_num, Lib.hid (belowN HBR.out _)⟩
          case measure => simp [intOf]; omega
        · have h2 : decide (a < c) = false := by have := hca hki; simp; omega
          have h3 : ((k : Int) == (i : Int)) = false := beq_eq_false_iff_ne.2 (by omega)
          have h4 : ((k : Int) != (i : Int)) = true := by simp; omega
          clear hac hca hki
          go_wp2
          go_quiet (fail)
          go_wp2
          go_roundw
          case rel => exact ⟨k + 1, by omega, by go_num, Lib.hid (belowN HBR.out _)⟩
          case measure => simp [intOf]; omega
      · obtain rfl : k = cs.length := by omega
        go_wp2_with fail
        refine (awake_any _).mono ?_
        rintro e w14 ⟨rfl, hb14⟩
        go_wp2
        go_ret
        exact ⟨rfl, belowT (belowT HBF.out HBR.out) hb14⟩
end Go.Proofs.Ytblbbhenmhkknaa
