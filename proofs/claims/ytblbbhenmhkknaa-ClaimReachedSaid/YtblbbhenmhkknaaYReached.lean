/- ClaimReached: the walk. -/
import Derived.Deep.DeepCutAuto
import Derived.Test.YtblbbhenmhkknaaYL5
import Derived.Test.YtblbbhenmhkknaaYN2
namespace Go.Proofs.Ytblbbhenmhkknaa
open Go.RowKit

set_option maxRecDepth 1000000 in
set_option maxHeartbeats 8000000 in
theorem reached_any (lo hi : Int) (A : Option Addr) (cs : List Clm) (B cap x0 : Nat) (w : World) (hm : cs.length ≤ cap) (hcm : cap ≤ maxLen) (hok : ClmsOk cs) (hR : RdN 4 encClm w B A cs) (hB : B ≤ w.heap.size) (hx0 : x0 ≤ 255) :
    Calls Try.prog 13 #[.agg #[.int .i64 lo, .int .i64 hi, .slice A cs.length cap], .int .u8 x0] w fun e w' => e = .returned (.bool true) ∧ Below w.heap.size w w' := by
  obtain ⟨i3, hi3, hz30, hz31, hz32⟩ := info_parts Try.info3
  obtain ⟨W1, hW1⟩ : ∃ W1, w.alloc (.cells #[.int .i64 lo, .int .i64 hi, .slice A cs.length cap] 42) = W1 := ⟨_, rfl⟩
  have hb0 : Below w.heap.size w W1 := by rw [← hW1]; exact belowA (belowR _) _
  have p0 : W1.cell? ⟨w.heap.size, 0, none⟩ = some (.int .i64 lo) := by rw [← hW1]; clear hW1; go_simp
  have p1 : W1.cell? ⟨w.heap.size, 1, none⟩ = some (.int .i64 hi) := by rw [← hW1]; clear hW1; go_simp
  have p2 : W1.cell? ⟨w.heap.size, 2, none⟩ = some (.slice A cs.length cap) := by rw [← hW1]; clear hW1; go_simp
  have HB0 := Lib.hid hb0
  have hz1 : w.heap.size < W1.heap.size := lt_of_cell p0
  have hRr := right_any lo hi A cs B cap W1 hm hcm hok (hR.below hb0 hB) (by omega)
  have HR := Lib.hid (hR.below hb0 hB)
  cases hb : rightB lo hi cs
  · rw [hb] at hRr
    have HRR := Lib.hid hRr
    clear hRr hb
    go_enter Try.func13, Try.ntmps13
    go_wp2_with fail
    refine HRR.out.mono ?_
    rintro e w1 ⟨rfl, hb1⟩
    have HB1 := Lib.hid hb1
    clear hb1
    go_wp2_with fail
    refine (awake_any _).mono ?_
    rintro e w2 ⟨rfl, hb2⟩
    go_wp2
    go_ret
    exact ⟨rfl, belowT (belowT HB0.out HB1.out) hb2⟩
  rw [hb] at hRr
  have hE : estErr lo hi cs = 0 := by simpa [rightB] using hb
  have hest := est_ok hE
  have hle8 := hest.len.2
  have hge1 := hest.len.1
  have hsp0 := hest.span.1
  have hsp1 := hest.span.2.1
  have hmi : x0 % cs.length < cs.length := Nat.mod_lt _ (by omega)
  obtain ⟨a, ha0⟩ : ∃ a, x0 % cs.length = a := ⟨_, rfl⟩
  rw [ha0] at hmi
  have hmod : (x0 : Int) % (cs.length : Int) = (a : Int) := by rw [← ha0]; simp
  obtain ⟨c, hc⟩ : ∃ c, cs[a]? = some c := ⟨_, List.getElem?_eq_getElem hmi⟩
  -- the contracts
  have hpy := fun (P : Int) (ds : List Int) (hl : ds.length = cs.length) (ht : truthE lo hi cs P ds = 0) W A2 cap2 (hR : RdN 4 encClm W W.heap.size A cs) (hD : Rd1 iv W W.heap.size A2 ds) => pays_yes lo hi A A2 cs W.heap.size cap cap2 P ds W hm hcm hok hR (Nat.le_refl _) hD ht
  have hpl : ∀ (P : Int) (ds : List Int), (pays (jl cs ds) P).length = cs.length := fun P ds => by rw [pays_len, jl_len]
  have hel := fun hg => endD_len hg cs a cs.length
  have hpA := hpy _ _ (hel false) (truthE_mk (end_ok (hg := false) (a := a) hE))
  have hpB := hpy _ _ (hel true) (truthE_mk (end_ok (hg := true) (a := a) hE))
  have hwl : (cs.map Clm.hi).length = cs.length := by simp
  have hpC := hpy lo (cs.map Clm.hi) hwl (truthE_mk (worst_ok hE (Int.le_refl _) hsp1))
  have hendA := fun W (hR : RdN 4 encClm W B A cs) (hB : B ≤ W.heap.size) => end_any false lo hi A cs B cap a W hR hB (by omega)
  have hendB := fun W (hR : RdN 4 encClm W B A cs) (hB : B ≤ W.heap.size) => end_any true lo hi A cs B cap a W hR hB (by omega)
  have hlA := end_pay (lo := lo) (hi := hi) (hg := false) hmi
  have hlB := end_pay (lo := lo) (hi := hi) (hg := true) hmi
  rw [if_neg (by simp)] at hlA
  rw [if_pos rfl] at hlB
  have hrw := worst_pay (hi := hi) hE hsp0 hc
  have hwp : (pays (jl cs (cs.map Clm.hi)) lo)[a]? = some (payAt (jl cs (cs.map Clm.hi)) lo ⟨c.rank, c.hi, c.hi⟩) := pays_get (by rw [jl_at hc, getD_at (by rw [List.getElem?_map, hc]; rfl)])
  have hsuq := sureL_iff (lo := lo) (n := cs.length) hmi (l3_at hc)
  rw [← hrw] at hsuq
  have hrat := rangesL_at (lo := lo) (hi := hi) (L := cs.map c3) hmi
  have hrg := fun W (hR : RdN 4 encClm W B A cs) (hB : B ≤ W.heap.size) => ranges_yes lo hi A cs B cap W hm hcm hok hR hB hE
  have hsu := fun W (hR : RdN 4 encClm W B A cs) (hB : B ≤ W.heap.size) => sure_yes lo hi A cs B cap W hm hcm hok hR hB hE
  have hrgl := rangesL_len lo hi (cs.map c3) cs.length
  unfold RangesYes at hrg
  unfold SureYes at hsu
  unfold EndPost at hendA hendB
  rw [hel] at hpA hpB
  rw [hwl] at hpC
  unfold PaysYes at hpA hpB hpC
  have helA := hel false
  have helB := hel true
  have hplA := hpl (endP false lo hi) (endD false cs a cs.length)
  have hplB := hpl (endP true lo hi) (endD true cs a cs.length)
  have hplC := hpl lo (cs.map Clm.hi)
  obtain ⟨X, hX⟩ : ∃ X, shareV (cs.map c3) (dLo (cs.map c3) a) lo a = X := ⟨_, rfl⟩
  obtain ⟨Y, hY⟩ : ∃ X, shareV (cs.map c3) (dHi (cs.map c3) a) hi a = X := ⟨_, rfl⟩
  obtain ⟨Z, hZ⟩ : ∃ X, payAt (jl cs (cs.map Clm.hi)) lo ⟨c.rank, c.hi, c.hi⟩ = X := ⟨_, rfl⟩
  rw [hX, hY] at hrat
  rw [hX] at hlA
  rw [hY] at hlB
  rw [hZ] at hwp hsuq
  obtain ⟨PA, hPA⟩ : ∃ l, pays (jl cs (endD false cs a cs.length)) (endP false lo hi) = l := ⟨_, rfl⟩
  obtain ⟨PB, hPB⟩ : ∃ l, pays (jl cs (endD true cs a cs.length)) (endP true lo hi) = l := ⟨_, rfl⟩
  obtain ⟨PC, hPC⟩ : ∃ l, pays (jl cs (cs.map Clm.hi)) lo = l := ⟨_, rfl⟩
  rw [hPA] at hpA hlA hplA
  rw [hPB] at hpB hlB hplB
  rw [hPC] at hpC hwp hplC
  obtain ⟨DA, hDA⟩ : ∃ l, endD false cs a cs.length = l := ⟨_, rfl⟩
  obtain ⟨DB, hDB⟩ : ∃ l, endD true cs a cs.length = l := ⟨_, rfl⟩
  rw [hDA] at hpA hendA helA
  rw [hDB] at hpB hendB helB
  obtain ⟨QA, hQA⟩ : ∃ l, endP false lo hi = l := ⟨_, rfl⟩
  obtain ⟨QB, hQB⟩ : ∃ l, endP true lo hi = l := ⟨_, rfl⟩
  rw [hQA] at hpA hendA
  rw [hQB] at hpB hendB
  obtain ⟨RA, hRA⟩ : ∃ r, QA - PA.sum = r := ⟨_, rfl⟩
  obtain ⟨RB, hRB⟩ : ∃ r, QB - PB.sum = r := ⟨_, rfl⟩
  obtain ⟨RC, hRC⟩ : ∃ r, lo - PC.sum = r := ⟨_, rfl⟩
  rw [hRA] at hpA
  rw [hRB] at hpB
  rw [hRC] at hpC
  obtain ⟨SL, hSL⟩ : ∃ SL, sureL lo (cs.map c3) cs.length = SL := ⟨_, rfl⟩
  rw [hSL] at hsu hsuq
  have hsl8 : SL.length ≤ 8 := by have := sureL_le lo (cs.map c3) cs.length; rw [hSL] at this; omega
  have hslt : ∀ j v, SL[j]? = some v → v < cs.length := fun j v hv => by
    have hm := List.mem_of_getElem? hv
    rw [← hSL] at hm
    exact (sureL_mem hm).1
  obtain ⟨RL, hRL⟩ : ∃ RL, rangesL lo hi (cs.map c3) cs.length = RL := ⟨_, rfl⟩
  rw [hRL] at hrg hrat hrgl
  have HRR := Lib.hid hRr
  have HPA := Lib.hid hpA
  have HPB := Lib.hid hpB
  have HPC := Lib.hid hpC
  have HEA := Lib.hid hendA
  have HEB := Lib.hid hendB
  have HRG := Lib.hid hrg
  have HSU := Lib.hid hsu
  have HLA := Lib.hid hlA
  have HLB := Lib.hid hlB
  have HWP := Lib.hid hwp
  have HSUQ := Lib.hid hsuq
  have HRAT := Lib.hid hrat
  have HRGL := Lib.hid hrgl
  have HELA := Lib.hid helA
  have HELB := Lib.hid helB
  have HPLA := Lib.hid hplA
  have HPLB := Lib.hid hplB
  have HPLC := Lib.hid hplC
  have HSLT := Lib.hid hslt
  have HC := Lib.hid hc
  have hwx0 : IntKind.i64.wrap (x0 : Int) = (x0 : Int) := by rw [IntKind.wrap_i64]; omega
  have hx00 : (0 : Int) ≤ (x0 : Int) := by omega
  have haz : (a : Int) < (cs.length : Int) := by omega
  have ha00 : (0 : Int) ≤ (a : Int) := by omega
  clear hRr hb hE hest hpy hpl hel hpA hpB hpC hwl hendA hendB hlA hlB hrw hwp hsuq hrat hrg hsu hrgl helA helB hplA hplB hplC hX hY hZ hPA hPB hPC hDA hDB hQA hQB hRA hRB hRC hSL hslt hRL hc ha0 hsp1 hb0 hR
  go_enter Try.func13, Try.ntmps13
  go_wp2_with fail
  refine HRR.out.mono ?_
  rintro e w1 ⟨rfl, hb1⟩
  have s0 := keepC hb1 p0
  have s1 := keepC hb1 p1
  have s2 := keepC hb1 p2
  have hz2 := hb1.size
  have HB1 := Lib.hid hb1
  have HR1 := Lib.hid (HR.out.below hb1 (by omega))
  clear hb1 HR HRR p0 p1 p2 hW1
  go_wp2_with fail
  refine (HRG.out _ HR1.out (by omega)).mono ?_
  rintro e w2 ⟨A5, cap5, rfl, hown2, hb2⟩
  have r0 := keepC hb2 s0
  have r1 := keepC hb2 s1
  have r2 := keepC hb2 s2
  have hz3 := hb2.size
  have HQ2 := Lib.hid (own_rdN' encSp_len hown2 HRGL.out)
  have HR2 := Lib.hid (HR1.out.below hb2 (by omega))
  have HB2 := Lib.hid (belowT HB1.out hb2)
  clear hb2 s0 s1 s2 hown2 HR1 HB1 HRG
  go_wp2
  -- the low end
  have HE1 := Lib.hid (HEA.out w2.drew (HR2.out.keep (fun _ _ => rfl)) (by simp; omega))
  clear HEA
  go_region_held3 (fun w' => w'.cell? ⟨w.heap.size, 0, none⟩ = some (.int .i64 lo) ∧ w'.cell? ⟨w.heap.size, 1, none⟩ = some (.int .i64 hi) ∧ w'.cell? ⟨w.heap.size, 2, none⟩ = some (.slice A cs.length cap)) (first | exact ⟨r0, r1, r2⟩ | exact ⟨keepC hb3 r0, keepC hb3 r1, keepC hb3 r2⟩ | exact ⟨keepC hb4 (keepC hb3 r0), keepC hb4 (keepC hb3 r1), keepC hb4 (keepC hb3 r2)⟩) (first | (go_at_call 50; ((with_reducible refine HE1.out.mono ?_); rintro e w3 ⟨A3, cap3, rfl, hown3, hb3⟩)) | (go_at_call 28; ((with_reducible refine (HPA.out w3 A3 cap3 ((HR2.out.below (undrew0 hb3) (by omega)).more (by have := (undrew0 hb3).size; omega)) (own_rd1' hown3 HELA.out)).mono ?_); rintro e w4 ⟨A4, cap4, rfl, hown4, hb4⟩)))
  have hB24 : Below w2.heap.size w2 w4 := belowT (undrew0 hb3) hb4
  have t0 := keepC hB24 r0
  have t1 := keepC hB24 r1
  have t2 := keepC hB24 r2
  have hz4 := hB24.size
  have HP4 := Lib.hid (own_rd1' hown4 HPLA.out)
  have HQ4 := Lib.hid (HQ2.out.below hB24 (Nat.le_refl _))
  have HR4 := Lib.hid (HR2.out.below hB24 (by omega))
  have HB4 := Lib.hid (belowT HB2.out hB24)
  clear hb3 hb4 hown3 hown4 hB24 r0 r1 r2 HQ2 HR2 HB2 HE1 HPA
  go_wp2
  -- the high end
  have HE2 := Lib.hid (HEB.out w4.drew (HR4.out.keep (fun _ _ => rfl)) (by simp; omega))
  clear HEB
  go_region_held3 (fun w' => w'.cell? ⟨w.heap.size, 0, none⟩ = some (.int .i64 lo) ∧ w'.cell? ⟨w.heap.size, 1, none⟩ = some (.int .i64 hi) ∧ w'.cell? ⟨w.heap.size, 2, none⟩ = some (.slice A cs.length cap)) (first | exact ⟨t0, t1, t2⟩ | exact ⟨keepC hb5 t0, keepC hb5 t1, keepC hb5 t2⟩ | exact ⟨keepC hb6 (keepC hb5 t0), keepC hb6 (keepC hb5 t1), keepC hb6 (keepC hb5 t2)⟩) (first | (go_at_call 50; ((with_reducible refine HE2.out.mono ?_); rintro e w5 ⟨A6, cap6, rfl, hown5, hb5⟩)) | (go_at_call 28; ((with_reducible refine (HPB.out w5 A6 cap6 ((HR4.out.below (undrew0 hb5) (by omega)).more (by have := (undrew0 hb5).size; omega)) (own_rd1' hown5 HELB.out)).mono ?_); rintro e w6 ⟨A7, cap7, rfl, hown6, hb6⟩)))
  have hB46 : Below w4.heap.size w4 w6 := belowT (undrew0 hb5) hb6
  have u0 := keepC hB46 t0
  have u1 := keepC hB46 t1
  have u2 := keepC hB46 t2
  have hz5 := hB46.size
  have HH6 := Lib.hid (own_rd1' hown6 HPLB.out)
  have HP6 := Lib.hid (HP4.out.below hB46 (Nat.le_refl _))
  have HQ6 := Lib.hid (HQ4.out.below hB46 (by omega))
  have HR6 := Lib.hid (HR4.out.below hB46 (by omega))
  have HB6 := Lib.hid (belowT HB4.out hB46)
  clear hb5 hb6 hown5 hown6 hB46 t0 t1 t2 HP4 HQ4 HR4 HB4 HE2 HPB
  go_wp2_with fail
  refine (HSU.out _ HR6.out (by omega)).mono ?_
  rintro e w7 ⟨vs, rfl, hown7, hb7⟩
  obtain ⟨A8, cap8, rfl, hrs, hx6⟩ := own_rd1 hown7
  clear hx6
  have v0 := keepC hb7 u0
  have v1 := keepC hb7 u1
  have v2 := keepC hb7 u2
  have hz6 := hb7.size
  have HS7 := Lib.hid hrs
  have HH7 := Lib.hid (HH6.out.below hb7 (Nat.le_refl _))
  have HP7 := Lib.hid (HP6.out.below hb7 (by omega))
  have HQ7 := Lib.hid (HQ6.out.below hb7 (by omega))
  have HR7 := Lib.hid (HR6.out.below hb7 (by omega))
  have HB7 := Lib.hid (belowT HB6.out hb7)
  clear hb7 hown7 hrs u0 u1 u2 HH6 HP6 HQ6 HR6 HB6 HSU
  go_wp2
  obtain ⟨W8, hW8⟩ : ∃ W, w7.alloc (.cells #[.int .i64 lo, .slice none 0 0] 44) = W := ⟨_, rfl⟩
  have hb8 : Below w7.heap.size w7 W8 := by rw [← hW8]; exact belowA (belowR _) _
  have k0 : W8.cell? ⟨w7.heap.size, 0, none⟩ = some (.int .i64 lo) := by rw [← hW8]; clear hW8; go_simp
  have k1 : W8.cell? ⟨w7.heap.size, 1, none⟩ = some (.slice none 0 0) := by rw [← hW8]; clear hW8; go_simp
  have kf : ∀ o, W8.frozen? ⟨w7.heap.size, o, none⟩ = false := fun o => by rw [← hW8]; clear hW8; go_simp
  rw [hW8]
  have hinv : AnyInv w7.heap.size W8.heap.size w7 W8 lo (.slice none 0 0) 0 (((cs.map Clm.hi).take 0).map iv) := ⟨k0, k1, kf, World.ownsRow_nil _ _ _ _, Nat.le_refl _, lt_of_cell k0, hb8⟩
  have HINV := Lib.hid hinv
  have hz8 : w7.heap.size < W8.heap.size := lt_of_cell k0
  clear hinv k0 k1 kf hb8 hW8
  go_loopw [17] (fun vi wr => ∃ (k : Nat) (v : Value), k ≤ cs.length ∧ vi = .int .i64 k ∧ Hid (AnyInv w7.heap.size W8.heap.size w7 wr lo v k (((cs.map Clm.hi).take k).map iv))) (fun vi _ => cs.length - (intOf vi).toNat)
  case atStart => exact ⟨0, _, Nat.zero_le _, rfl, HINV⟩
  case round =>
    clear HINV
    obtain ⟨k, v, hk, rfl, HI⟩ := hrel
    obtain ⟨c0, c1, cf, own, hsz, hgl, hbw⟩ := HI.out
    have a2 := keepC hbw v2
    have OWN := Lib.hid own
    have CF := Lib.hid cf
    have HBW := Lib.hid hbw
    have hzb := hbw.size
    clear own cf
    by_cases hlt : k < cs.length
    · obtain ⟨ck, hx⟩ : ∃ x, cs[k]? = some x := ⟨_, List.getElem?_eq_getElem hlt⟩
      have hRr := (HR7.out.below hbw (by omega))
      have hsn := take_step (l := cs.map Clm.hi) (k := k) (x := ck.hi) (by rw [List.getElem?_map, hx]; rfl)
      obtain ⟨b, off, rfl, hbl, e0, e1, e2, e3⟩ := clmAt hRr hx
      have hkz : (k : Int) < (cs.length : Int) := by omega
      have hk0 : (0 : Int) ≤ (k : Int) := by omega
      obtain ⟨X, hX⟩ : ∃ X, ck.hi = X := ⟨_, rfl⟩
      rw [hX] at hsn e3
      have HSN := Lib.hid hsn
      have c1A := fun ob => keepA c1 ob
      have e3A := fun ob => keepA e3 ob
      have a2A := fun ob => keepA a2 ob
      have hbA : Below wr.heap.size wr (wr.alloc (.cells #[iv X] 3)).drew := belowDr (belowA (belowR _) _)
      have hownA := own_below OWN.out hbA
      have HBA := Lib.hid hbA
      have HOWNA := Lib.hid hownA
      have hk9 : k + 1 ≤ maxLen := by unfold maxLen; omega
      have hk8 : (k + 1) * 8 ≤ 140737488355328 := by omega
      clear hRr hsn hX hx hbw e0 e1 e2 HI hownA hbA v0 v1 v2
      go_wp2
      go_region_law (refine step_append_lies _ (by rfl) _ _ _ (by rfl) W8.heap.size 3 i3 _ 1 8 Try.underlying32 hi3 hz30 hz31 hz32 rfl (by omega) _ k _ (by rfl) HOWNA.out ⟨wr.heap.size, 0, none⟩ 1 1 [.int .i64 X] (by rfl) (by rfl) (World.news_of_block (cs := #[.int .i64 X]) (t := 3) (fr := (0, 0)) (heap_alloc_new wr _)) (by simp [Value.oneCell']) (by omega) hk9 hk8 (Nat.le_trans hsz (Nat.le_of_lt (by simp))) (wr.heap.size + 1) (by simp) ?_; intro gg cap9 w5 hown5 hgrow hat hlt5; have y1 : w5.cell? ⟨w7.heap.size, 1, none⟩ = some v := grownC HOWNA.out hgrow hgl (keepC HBA.out c1); have y2 : w5.frozen? ⟨w7.heap.size, 1, none⟩ = false := (grownF HOWNA.out hgrow hgl (keepC HBA.out c1)).trans ((keepF HBA.out c1).trans (CF.out 1)))
      all_goals
        have hB5 : Below w7.heap.size w7 w5 := grownB (a := w7) HOWNA.out hgrow (by omega) (belowT HBW.out HBA.out)
        have y3 : w5.cell? ⟨w7.heap.size, 0, none⟩ = some (.int .i64 lo) := grownC HOWNA.out hgrow hgl (keepC HBA.out c0)
        have y4 : ∀ o, w5.frozen? ⟨w7.heap.size, o, none⟩ = false := fun o => (grownFz HOWNA.out hgrow o hgl (by have := lt_of_cell c1; simp; omega)).trans ((World.frozen?_of_block (w := wr) (a := ⟨w7.heap.size, o, none⟩) (HBA.out.block _ (lt_of_cell c1))).trans (CF.out o))
        have hinv : AnyInv w7.heap.size W8.heap.size w7 (w5.setCell ⟨w7.heap.size, 1, none⟩ (.slice (some ⟨gg, 0, none⟩) (k + 1) cap9)) lo (.slice (some ⟨gg, 0, none⟩) (k + 1) cap9) (k + 1) (((cs.map Clm.hi).take (k + 1)).map iv) := by
          refine ⟨by go_simp, by go_simp, fun o => by rw [World.frozen?_setCell]; exact y4 o, ?_, by simp only [World.size_setCell]; have := hgrow.size; simp at *; omega, hgl, belowS hB5 (Nat.le_refl _) _⟩
          rw [HSN.out, List.map_append]
          exact ownsRow_setCell_below hown5 (a := ⟨w7.heap.size, 1, none⟩) hgl _
        have HINV := Lib.hid hinv
        clear hinv hown5 hgrow y1 y2 y3 y4 hB5 hat hlt5 c1A e3A a2A
        go_wp2
        go_roundw
        case rel => exact ⟨k + 1, _, by omega, by go_num, HINV⟩
        case measure => simp [intOf]; omega
    · obtain rfl : k = cs.length := by omega
      have htk : (cs.map Clm.hi).take cs.length = cs.map Clm.hi := List.take_of_length_le (by simp)
      have hwl : (cs.map Clm.hi).length = cs.length := by simp
      have hown := OWN.out
      rw [htk] at hown
      obtain ⟨A2, cap2, rfl, hx2⟩ := own_rd1 (xs := cs.map Clm.hi) (enc := iv) (by rw [hwl]; exact hown)
      clear hx2
      rw [hwl] at c1 hown
      have HD8 := Lib.hid (own_rd1' hown hwl)
      have b0 := keepC hbw v0
      have b1 := keepC hbw v1
      have HQ8 := Lib.hid (HQ7.out.below hbw (by omega))
      have hzw := hbw.size
      clear OWN v0 v1 v2 hbw HI hown htk hwl
      go_wp2_with fail
      refine (HPC.out _ A2 cap2 ((HR7.out.below HBW.out (by omega)).more (by omega)) HD8.out).mono ?_
      rintro e w9 ⟨A9, cap9, rfl, hown9, hb9⟩
      have d2 := keepC hb9 a2
      have HC9 := Lib.hid (own_rd1' hown9 HPLC.out)
      have HQ9 := Lib.hid (HQ8.out.below hb9 (by omega))
      have hB79 : Below w7.heap.size w7 w9 := belowT HBW.out hb9
      have HP9 := Lib.hid (HP7.out.below hB79 (by omega))
      have HH9 := Lib.hid (HH7.out.below hB79 (by omega))
      have HS9 := Lib.hid (HS7.out.below hB79 (by omega))
      have HR9 := Lib.hid (HR7.out.below hB79 (by omega))
      have HB9 := Lib.hid (belowT HB7.out hB79)
      have hz9 := hB79.size
      clear hb9 hown9 hB79 HD8 HQ8 HBW HQ7 HP7 HH7 HS7 HR7 HB7 b0 b1 c0 c1 a2 HPC CF
      go_wp2
      go_loopw [21, 22] (fun vf vi wr => ∃ (k : Nat) (f : Bool), k ≤ SL.length ∧ vi = .int .i64 k ∧ vf = .bool f ∧ Hid (f = decide (a ∈ SL.take k)) ∧ Hid (Below w9.heap.size w9 wr)) (fun _ vi _ => SL.length - (intOf vi).toNat)
      case atStart => exact ⟨0, false, Nat.zero_le _, rfl, rfl, Lib.hid (by simp), Lib.hid (belowR _)⟩
      case round =>
        obtain ⟨k, f, hk, rfl, rfl, HF, HBR⟩ := hrel
        by_cases hlt : k < SL.length
        · obtain ⟨v, hv⟩ : ∃ v, SL[k]? = some v := ⟨_, List.getElem?_eq_getElem hlt⟩
          obtain ⟨b3, o3, rfl, _, c3'⟩ := (HS9.out.below HBR.out (by omega)) k v hv
          have hts := take_step hv
          have hmem : decide (a ∈ SL.take (k + 1)) = (decide (a ∈ SL.take k) || ((v : Int) == (a : Int))) := by
            rw [hts]
            by_cases e : a = v
            · subst e; simp
            · have h1 : ((v : Int) == (a : Int)) = false := by simp; omega
              simp [h1, e]
          rw [← HF.out] at hmem
          have HMEM := Lib.hid hmem
          have hkz : (k : Int) < (SL.length : Int) := by omega
          have hk0 : (0 : Int) ≤ (k : Int) := by omega
          clear hv hts hmem HF
          cases f
          · cases hva : ((v : Int) == (a : Int))
            all_goals
              go_wp2
              go_roundw
              case rel => exact ⟨k + 1, _, by omega, by go_num, rfl, Lib.hid (by rw [HMEM.out, hva]; rfl), HBR⟩
              case measure => simp [intOf]; omega
          · go_wp2
            go_roundw
            case rel => exact ⟨k + 1, _, by omega, by go_num, rfl, Lib.hid (by rw [HMEM.out]; rfl), HBR⟩
            case measure => simp [intOf]; omega
        · obtain rfl : k = SL.length := by omega
          have hf := HF.out
          rw [List.take_length] at hf
          have hfz : (Z == c.hi) = f := by
            rw [hf]
            have := HSUQ.out
            by_cases e : Z = c.hi
            · simp [this, e]
            · have e2 : a ∉ SL := fun h => e (this.1 h)
              simp [e, e2]
          have HFZ := Lib.hid hfz
          clear hf HF hfz
          obtain ⟨b1, o1, rfl, _, d1, d3⟩ := spAt (HQ9.out.below HBR.out (by omega)) HRAT.out
          obtain ⟨b2, o2, rfl, _, f2⟩ := (HP9.out.below HBR.out (by omega)) a X HLA.out
          obtain ⟨b3, o3, rfl, _, f3⟩ := (HH9.out.below HBR.out (by omega)) a Y HLB.out
          obtain ⟨b4, o4, rfl, _, f4⟩ := (HC9.out.below HBR.out (by omega)) a Z HWP.out
          obtain ⟨b5, o5, rfl, _, e0, e1, e2, e3⟩ := clmAt (HR9.out.below HBR.out (by omega)) HC.out
          have d2 := keepC HBR.out d2
          simp only at d1 d3
          clear e0 e1 e2
          have hfz := HFZ.out
          obtain ⟨chi, hchi⟩ : ∃ h, c.hi = h := ⟨_, rfl⟩
          rw [hchi] at hfz e3
          clear hchi HFZ
          go_wp2
          clear HQ9 HP9 HH9 HC9 HR9 HS9 HRAT HLA HLB HWP HC HSUQ HSLT HRGL HELA HELB HPLA HPLB HPLC hi3 hz30 hz31 hz32 hok hsl8 hk hlt
          go_upto_region 21 with fail
          cases f
          all_goals
            go_region_held3 (fun w' => w'.cell? ⟨b1, o1 + a * 2, none⟩ = some (.int .i64 X) ∧ w'.cell? ⟨b1, o1 + a * 2 + 1, none⟩ = some (.int .i64 Y) ∧ w'.cell? ⟨b2, o2 + a, none⟩ = some (.int .i64 X) ∧ w'.cell? ⟨b3, o3 + a, none⟩ = some (.int .i64 Y) ∧ w'.cell? ⟨b4, o4 + a, none⟩ = some (.int .i64 Z) ∧ w'.cell? ⟨w.heap.size, 2, none⟩ = some (.slice (some ⟨b5, o5, none⟩) cs.length cap) ∧ w'.cell? ⟨b5, o5 + a * 4 + 3, none⟩ = some (.int .i64 chi)) (first | exact ⟨keepC hb11 (keepC hb10 d1), keepC hb11 (keepC hb10 d3), keepC hb11 (keepC hb10 f2), keepC hb11 (keepC hb10 f3), keepC hb11 (keepC hb10 f4), keepC hb11 (keepC hb10 d2), keepC hb11 (keepC hb10 e3)⟩ | exact ⟨keepC hb10 d1, keepC hb10 d3, keepC hb10 f2, keepC hb10 f3, keepC hb10 f4, keepC hb10 d2, keepC hb10 e3⟩ | exact ⟨d1, d3, f2, f3, f4, d2, e3⟩) (first | (go_at_call 51; ((with_reducible refine (span_any X Y _).mono ?_); rintro e w10 ⟨rfl, hb10⟩)) | (go_at_call 25; ((with_reducible refine (awake_any _).mono ?_); rintro e w11 ⟨rfl, hb11⟩)))
            go_wp2
            go_ret
            exact ⟨rfl, belowT HB0.out (belowT HB9.out (belowT HBR.out (belowT (undrew0 hb10) hb11)))⟩
end Go.Proofs.Ytblbbhenmhkknaa
