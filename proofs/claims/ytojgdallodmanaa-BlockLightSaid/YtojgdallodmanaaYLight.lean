/- BlockLight: the walk (printed by mkLight.py). -/
import Derived.Deep.DeepCutAuto
import Derived.Test.YtojgdallodmanaaZ654d27
import Derived.Test.YtojgdallodmanaaZ9c690f
namespace Go.Proofs.Ytojgdallodmanaa
open Go.RowKit

/-- What pulling up to so many kilos may take, rounded up, is over the winch where the kilos times the sling's worst are. -/
theorem upD_gt {n w : Int} (h0 : 0 ≤ n) : w < upD n 1000 ↔ 1000 * w < n := by
  unfold upD
  rw [Int.tdiv_eq_ediv_of_nonneg (by omega)]
  omega
def heavyTo (f : Nat → Bool) (k : Nat) : Bool := (List.range k).any f
theorem heavyTo_succ (f : Nat → Bool) (k : Nat) : heavyTo f (k + 1) = (heavyTo f k || f k) := by unfold heavyTo; rw [List.range_succ, List.any_append]; simp
theorem heavyTo_true {f : Nat → Bool} {n i : Nat} (hi : i < n) (h : f i = true) : heavyTo f n = true := by
  unfold heavyTo
  rw [List.any_eq_true]
  exact ⟨i, by simpa using hi, h⟩
theorem hang_all {js : List (Int × Int)} {q : List Nat} {n : Nat} (h : hangCut js q n = true) {j : Nat} (hj : j < manyTo (pad q) n) : hangsB js ((blkTo (pad q) n)[j]?.getD 0) = true := by
  unfold hangCut anyTo at h
  simp only [Bool.not_eq_true', List.any_eq_false, List.mem_range] at h
  simpa using h j hj

set_option maxRecDepth 100000 in
set_option maxHeartbeats 8000000 in
theorem lightLaw_any (h : Hul) (A J : Option Addr) (cap capJ : Nat) (AL : Option Addr) (l : List Wgh) (capL : Nat) (AX AR : Option Addr) (xs rs : List Int) (capX capR sand blk B : Nat) (w : World)
    (hH : HulRd w B h A cap J capJ) (hL : RdN 3 encWgh w B AL l) (hlc : l.length ≤ capL) (hcm : capL ≤ maxLen) (hP : PastRd w B AX xs AR rs sand blk) (hB : B ≤ w.heap.size) :
    Calls Try.prog 11 #[hv h A cap J capJ, .slice AL l.length capL, pastV AX xs capX AR rs capR sand blk] w fun e w' => e = .returned (.bool true) ∧ Below w.heap.size w w' := by
  obtain ⟨W1, hW1, hb1, hzz, p0, p1, p2, p3, p4⟩ := hulBox w h A cap J capJ
  obtain ⟨W2, hW2, hb2, q0, q1, q2, q3⟩ := pastBox W1 AX xs.length capX AR rs.length capR sand blk
  have hb0 := belowT hb1 hb2
  have HKB : Hid (∀ W, Below W2.heap.size W2 W → W.cell? ⟨w.heap.size, 0, none⟩ = some (.slice A h.ps.length cap) ∧ W.cell? ⟨w.heap.size, 1, none⟩ = some (.slice J h.js.length capJ) ∧ W.cell? ⟨w.heap.size, 2, none⟩ = some (.int .i64 h.slo) ∧ W.cell? ⟨w.heap.size, 3, none⟩ = some (.int .i64 h.shi) ∧ W.cell? ⟨w.heap.size, 4, none⟩ = some (.int .i64 h.winch)) := Lib.hid fun W hb => ⟨keepC hb (keepC hb2 p0), keepC hb (keepC hb2 p1), keepC hb (keepC hb2 p2), keepC hb (keepC hb2 p3), keepC hb (keepC hb2 p4)⟩
  have HKP : Hid (∀ W, Below W2.heap.size W2 W → W.cell? ⟨W1.heap.size, 0, none⟩ = some (.slice AX xs.length capX) ∧ W.cell? ⟨W1.heap.size, 1, none⟩ = some (.slice AR rs.length capR) ∧ W.cell? ⟨W1.heap.size, 2, none⟩ = some (.int .u32 sand) ∧ W.cell? ⟨W1.heap.size, 3, none⟩ = some (.int .u8 blk)) := Lib.hid fun W hb => ⟨keepC hb q0, keepC hb q1, keepC hb q2, keepC hb q3⟩
  have hBz : B ≤ W2.heap.size := Nat.le_trans hB hb0.size
  have HH := Lib.hid (hH.below hb0 hB)
  have HL := Lib.hid (hL.below hb0 hB)
  have HX := Lib.hid (hP.x.below hb0 hB)
  have HR := Lib.hid (hP.r.below hb0 hB)
  have HXU := Lib.hid hP.xu
  have HRU := Lib.hid hP.ru
  have HB0 := Lib.hid hb0
  have hss := hP.s
  have hbb := hP.b
  have hlm : l.length ≤ maxLen := Nat.le_trans hlc hcm
  have HLC := Lib.hid hlc
  have HAW := Lib.hid awake_any
  have hset := sets_any h A J B cap capJ AL l capL W2 HH.out HL.out hlm hBz
  obtain ⟨g, hg⟩ : ∃ g, (openE h l == 0 || openE h l == 9) = g := ⟨_, rfl⟩
  rw [hg] at hset
  have HSET := Lib.hid hset
  clear hb0 hb1 hH hL hP hlc hcm hzz hset
  obtain ⟨p0, p1, p2, p3, p4⟩ := HKB.out _ (belowR W2)
  obtain ⟨q0, q1, q2, q3⟩ := HKP.out _ (belowR W2)
  cases g
  · have hne := sets_no hg
    clear hg
    go_enter Try.func11, Try.ntmps11
    go_wp2_with fail
    refine HSET.out.mono ?_
    rintro e w1 ⟨rfl, hb3⟩
    have HB3 := Lib.hid hb3
    clear hb3 hW1 hW2 p0 p1 p2 p3 p4 q0 q1 q2 q3 hb2
    obtain ⟨p0, p1, p2, p3, p4⟩ := HKB.out _ HB3.out
    have hwt := fewest_any h A J B cap capJ AL l capL w1 (HH.out.below HB3.out hBz) (HL.out.below HB3.out hBz) HLC.out (Nat.le_trans hBz HB3.out.size)
    have HWT := Lib.hid hwt
    clear hwt
    go_wp2_with fail
    refine HWT.out.mono ?_
    rintro e w4 ⟨hb4, hcase⟩
    have HB4 := Lib.hid (belowT HB3.out hb4)
    clear hb4 p0 p1 p2 p3 p4
    rcases hcase with ⟨_, rfl⟩ | ⟨h0, _⟩
    case inr => exact absurd h0 hne
    obtain ⟨E, hE⟩ : ∃ E, openE h l = E := ⟨_, rfl⟩
    rw [hE] at hne ⊢
    have hcb : (E != 0) = true := by simpa using hne
    clear hE hne
    go_wp2_with (go_at_call 24; refine (HAW.out _).mono ?_; rintro e w5 ⟨rfl, hb5⟩; have HB5 := Lib.hid (belowT HB4.out hb5); clear hb5)
    go_ret
    exact ⟨rfl, belowT HB0.out HB5.out⟩
  · have hp := sets_iff.1 hg
    have hk := hulOk (openPre_zero hp).1
    have hwo := wghsOk hp
    have hbx := truthF_box hk.ps xs
    obtain ⟨hpt, htt⟩ := told_pre hp HRU.out.2 hbx (us := rs)
    have hft : Feas h (toldL rs (truthF h xs) l) := ⟨_, htt⟩
    have htr := truth_any h A J B cap capJ AX xs capX
    have HK := Lib.hid hk
    have HWO := Lib.hid hwo
    have HBX := Lib.hid hbx
    have HPT := Lib.hid hpt
    have HTT := Lib.hid htt
    have HFT := Lib.hid hft
    have hn8 := hk.n8
    have hn1 := hk.n1
    obtain ⟨v, hv⟩ : ∃ v, truthF h xs = v := ⟨_, rfl⟩
    rw [hv] at HBX HPT HTT HFT htr
    obtain ⟨l', hl'⟩ : ∃ l', toldL rs v l = l' := ⟨_, rfl⟩
    rw [hl'] at HPT HTT HFT
    have HL' := Lib.hid hl'
    have HTR := Lib.hid htr
    clear hg hp hk hwo hbx hpt htt hft hv hl' htr
    go_enter Try.func11, Try.ntmps11
    go_wp2_with fail
    refine HSET.out.mono ?_
    rintro e w1 ⟨rfl, hb3⟩
    have HB3 := Lib.hid hb3
    clear hb3 hW1 hW2 p0 p1 p2 p3 p4 q0 q1 q2 q3 hb2
    obtain ⟨p0, p1, p2, p3, p4⟩ := HKB.out _ HB3.out
    obtain ⟨q0, q1, q2, q3⟩ := HKP.out _ HB3.out
    go_wp2_with fail
    refine (HTR.out w1 (HH.out.below HB3.out hBz) HK.out HXU.out (HX.out.below HB3.out hBz) (Nat.le_trans hBz HB3.out.size)).mono ?_
    rintro e w4 ⟨hb4, gt, ct, rfl, hown4⟩
    have HB4 := Lib.hid (belowT HB3.out hb4)
    have HO4 := Lib.hid hown4
    clear hb4 hown4 p0 p1 p2 p3 p4 q0 q1 q2 q3
    obtain ⟨q0, q1, q2, q3⟩ := HKP.out _ HB4.out
    go_wp2_with fail
    refine (told_any h.ps.length AL l capL (some ⟨gt, 0, none⟩) v ct AR rs capR B w4 hn8 (HL.out.below HB4.out hBz) HWO.out (row_rd HO4.out) (box_wt HK.out.ps HBX.out) HRU.out (HR.out.below HB4.out hBz) (Nat.le_trans hBz HB4.out.size)).mono ?_
    rintro e w5 ⟨hb5, A5, c5, rfl, hR5, hc5, hcm5⟩
    rw [HL'.out] at hR5 hc5 ⊢
    have HB5 := Lib.hid (belowT HB4.out hb5)
    have HO5 := Lib.hid (own_below HO4.out hb5)
    have HR5 := Lib.hid hR5
    have HC5 := Lib.hid hc5
    clear hb5 hR5 hc5 hcm5 q0 q1 q2 q3
    obtain ⟨p0, p1, p2, p3, p4⟩ := HKB.out _ HB5.out
    go_wp2_with fail
    refine (fewest_any h A J w5.heap.size cap capJ A5 l' c5 w5 ((HH.out.below HB5.out hBz).more (Nat.le_trans hBz HB5.out.size)) HR5.out HC5.out (Nat.le_refl _)).mono ?_
    rintro e w6 ⟨hb6, hcase⟩
    rcases hcase with ⟨hne, _⟩ | ⟨_, _, _, N, hN, hcase⟩
    · exact absurd (openE_zero HPT.out HFT.out) hne
    have HB6 := Lib.hid (belowT HB5.out hb6)
    have HO6 := Lib.hid (own_below HO5.out hb6)
    have HN := Lib.hid hN
    have hz6 : w5.heap.size ≤ w6.heap.size := hb6.size
    have HR6 := Lib.hid ((HR5.out.below hb6 (Nat.le_refl _)).more hz6)
    clear p0 p1 p2 p3 p4
    rcases hcase with ⟨hfew, rfl⟩ | ⟨hfew, A7, c7, rfl, hown7⟩
    · -- no cut: some part is too heavy by itself
      have hbk : ∃ f : Nat → Int × Int, (∀ k, k < h.ps.length → f k = pullV h (leastRef h l' (2 ^ k)) (mostRef h l' (2 ^ k))) ∧ (∀ k, k < h.ps.length → ∀ V, Below w6.heap.size w6 V → Calls Try.prog 22 #[.agg #[.slice A h.ps.length cap, .slice J h.js.length capJ, .int .i64 h.slo, .int .i64 h.shi, .int .i64 h.winch], .slice A5 l'.length c5, iv ((2 ^ k : Nat) : Int)] V fun e w' => e = .returned (.tuple #[.agg #[iv (f k).1, iv (f k).2], iv 0]) ∧ Below V.heap.size V w') := by
        refine ⟨fun k => pullV h (leastRef h l' (2 ^ k)) (mostRef h l' (2 ^ k)), fun k _ => rfl, fun k hk V hb => ?_⟩
        have hs2 : 2 ^ k < 2 ^ h.ps.length := Nat.pow_lt_pow_right (by decide) hk
        have hbe : blockE h.ps.length h.js ((2 ^ k : Nat) : Int) = 0 := blockE_ok (Nat.pow_pos (by decide)) hs2 (hangs_single _ (by omega))
        have hen : enterE h l' ((2 ^ k : Nat) : Int) = 0 := by unfold enterE; rw [if_pos (openE_zero HPT.out HFT.out)]; exact hbe
        refine (pull_any h A J w6.heap.size cap capJ A5 l' c5 ((2 ^ k : Nat) : Int) V (((HH.out.below HB6.out hBz).more (Nat.le_trans hBz HB6.out.size)).below hb (Nat.le_refl _)) (HR6.out.below hb (Nat.le_refl _)) HC5.out hb.size).mono ?_
        rintro e w' ⟨hbw, hc⟩
        rcases hc with ⟨hne, _⟩ | ⟨_, _, _, _, N2, hN2, rfl⟩
        · exact absurd hen hne
        · rw [Int.toNat_natCast, mostV_ref HPT.out hN2 HFT.out hs2, leastV_ref HPT.out hN2 HFT.out hs2]
          exact ⟨rfl, hbw⟩
      obtain ⟨f, hf, hpc⟩ := hbk
      have hend : heavyTo (fun k => decide (h.winch < (f k).2)) h.ps.length = true := by
        obtain ⟨i, hi, hl⟩ := few_none hn8 hfew
        refine heavyTo_true hi ?_
        have hs2 : 2 ^ i < 2 ^ h.ps.length := Nat.pow_lt_pow_right (by decide) hi
        unfold lightS at hl
        rw [mostV_ref HPT.out hN HFT.out hs2] at hl
        have hl : ¬ mostRef h l' (2 ^ i) * h.shi ≤ 1000 * h.winch := of_decide_eq_false hl
        have hm := (mostRef_bd (l := l') HK.out hs2).1
        have hs0 : 0 ≤ h.shi := by have := HK.out.s1; have := HK.out.s2; omega
        have hmm : 0 ≤ mostRef h l' (2 ^ i) * h.shi := Int.mul_nonneg hm hs0
        rw [decide_eq_true_eq, hf i hi]
        show h.winch < upD (mostRef h l' (2 ^ i) * h.shi) 1000
        rw [upD_gt hmm]
        omega
      have HPC := Lib.hid hpc
      have HEND := Lib.hid hend
      clear hf hpc hend hfew hN hb6
      go_upto_region 9 with fail
      go_wp2_with fail
      obtain ⟨wq, hwq⟩ : ∃ wq : World, wq = w6 := ⟨_, rfl⟩
      have HBQ : Hid (Below w6.heap.size w6 wq) := Lib.hid (by rw [hwq]; exact belowR _)
      rw [← hwq]
      clear hwq
      go_loopw [13, 14] (fun vh vi wr => ∃ (k : Nat) (bb : Bool), k ≤ h.ps.length ∧ vi = .int .i64 k ∧ vh = .bool bb ∧ Hid (heavyTo (fun k => decide (h.winch < (f k).2)) k = bb) ∧ Hid (Below w6.heap.size w6 wr)) (fun _ vi _ => h.ps.length - (intOf vi).toNat)
      case atStart => exact ⟨0, false, Nat.zero_le _, rfl, rfl, Lib.hid rfl, HBQ⟩
      case round =>
        obtain ⟨k, bb, hk, rfl, rfl, HV, HBR⟩ := hrel
        obtain ⟨p0, p1, p2, p3, p4⟩ := HKB.out _ (belowT HB6.out HBR.out)
        by_cases hlt : k < h.ps.length
        · have hst := heavyTo_succ (fun k => decide (h.winch < (f k).2)) k
          rw [HV.out] at hst
          have hpk := fun W (hb : Below wr.heap.size wr W) => HPC.out k hlt W (belowT HBR.out hb)
          obtain ⟨av, hav⟩ : ∃ x, (f k).1 = x := ⟨_, rfl⟩
          obtain ⟨bv, hbv⟩ : ∃ x, (f k).2 = x := ⟨_, rfl⟩
          rw [hav, hbv] at hpk
          simp only [hbv] at hst
          obtain ⟨cc, hcc⟩ : ∃ cc, decide (h.winch < bv) = cc := ⟨_, rfl⟩
          rw [hcc] at hst
          have HST := Lib.hid hst
          clear hst hav hbv
          go_upto_region 12 with fail
          refine reg11_12 (fun W => bit_any k W (by omega)) hpk p0 p1 p2 p3 p4 ?_
          rintro gg v60 v61 v62 v63 v64 v59 v65 v66 wx ⟨hbx, hgz, x0, x1⟩
          have HBX := Lib.hid (belowT HBR.out hbx)
          clear hbx p0 p1 p2 p3 p4
          obtain ⟨p0, p1, p2, p3, p4⟩ := HKB.out _ (belowT HB6.out HBX.out)
          cases bb
          · have hfc : (false || cc) = cc := rfl
            rw [hfc] at HST
            go_wp2_with fail
            go_roundw
            case rel => exact ⟨k + 1, cc, by omega, by go_num, rfl, HST, HBX⟩
            case measure => simp [intOf]; omega
          · have hfc : (true || cc) = true := rfl
            rw [hfc] at HST
            go_wp2_with fail
            go_roundw
            case rel => exact ⟨k + 1, true, by omega, by go_num, rfl, HST, HBX⟩
            case measure => simp [intOf]; omega
        · obtain rfl : k = h.ps.length := by omega
          obtain rfl : bb = true := by rw [← HV.out]; exact HEND.out
          go_wp2_with (go_at_call 24; (with_reducible refine (HAW.out _).mono ?_); rintro e w11 ⟨rfl, hb11⟩; have HB11 := Lib.hid (belowT HBR.out hb11); clear hb11)
          go_ret
          exact ⟨rfl, belowT HB0.out (belowT HB6.out HB11.out)⟩
    · -- a cut: it is one, each of its blocks hangs, and is light enough
      obtain ⟨hmem, _, hlight⟩ := few_some hfew
      obtain ⟨q, hql, hqg, _, hqh, hqe⟩ := cutsL_iff.1 hmem
      rw [hqe] at hown7 hlight
      have htk : (pad q).take h.ps.length = q := by rw [← hql]; exact pad_take
      rw [htk] at hown7
      have hq8 : q.length ≤ 8 := by omega
      obtain ⟨g7, c7', hv7, _, _, _⟩ := own_form hown7 hn1
      injection hv7 with hv71 hv72 hv73
      subst hv71
      have hrq : Rd1 nv w6 w6.heap.size (some ⟨g7, 0, none⟩) q := by
        rw [← hql] at hown7
        obtain ⟨A9, c9, hv9, hR9, _⟩ := own_rd1 hown7
        injection hv9 with h2
        rw [h2]; exact hR9
      have hcc : ∀ V, Below w6.heap.size w6 V → Calls Try.prog 48 #[.agg #[.slice A h.ps.length cap, .slice J h.js.length capJ, .int .i64 h.slo, .int .i64 h.shi, .int .i64 h.winch], .slice (some ⟨g7, 0, none⟩) h.ps.length c7] V fun e w' => e = .returned (iv 0) ∧ Below V.heap.size V w' := fun V hb => by
        have := cut48_any h A J w6.heap.size cap capJ (some ⟨g7, 0, none⟩) q c7 V hql hn8 hqg (hrq.below hb (Nat.le_refl _)) hb.size
        rw [hql] at this
        exact this
      have hbc : ∀ V, Below w6.heap.size w6 V → Calls Try.prog 49 #[.slice (some ⟨g7, 0, none⟩) h.ps.length c7] V fun e w' => Below V.heap.size V w' ∧ ∃ A cap, e = .returned (.slice A (manyTo (pad q) h.ps.length) cap) ∧ w'.ownsRow V.heap.size 3 1 (.slice A (manyTo (pad q) h.ps.length) cap) (manyTo (pad q) h.ps.length) ((rowB q h.ps.length).map nv) := fun V hb => by
        have := blocks49_any w6.heap.size (some ⟨g7, 0, none⟩) q c7 V hq8 hqg (hrq.below hb (Nat.le_refl _)) hb.size
        rw [hql] at this
        exact this
      have hac : ∀ V, Calls Try.prog 43 #[.agg #[.int .i64 h.slo, .int .i64 h.shi], .int .i64 (sand : Int)] V fun e w' => e = .returned (iv (amongI h.slo h.shi sand)) ∧ Below V.heap.size V w' := fun V => among_any h.slo h.shi sand V (by have := HK.out.s1; omega) HK.out.s2 (by have := HK.out.s3; omega) (by omega) (by omega)
      have hab := amongI_bd (n := (sand : Int)) HK.out.s2
      obtain ⟨T, hT⟩ : ∃ T, amongI h.slo h.shi sand = T := ⟨_, rfl⟩
      rw [hT] at hac hab
      have hlr : (rowB q h.ps.length).length = manyTo (pad q) h.ps.length := rowB_len hq8 hqg (by omega)
      have heach : ∀ (j s : Nat), (rowB q h.ps.length)[j]? = some s → s < 2 ^ h.ps.length ∧ hangsB h.js s = true ∧ 0 ≤ sumS v s * T ∧ sumS v s * T ≤ 1000 * h.winch := fun j s hs => by
        have hj : j < manyTo (pad q) h.ps.length := by rw [← hlr]; exact (List.getElem?_eq_some_iff.1 hs).1
        have hs' : (blkTo (pad q) h.ps.length)[j]? = some s := by
          unfold rowB at hs
          rw [List.getElem?_take_of_lt hj] at hs
          exact hs
        have h1 := blk_lt (h := h) (C := pad q) hn8 j
        have h2 := hang_all hqh hj
        have h3 := lightCut_iff.1 hlight j hj
        rw [hs', Option.getD_some] at h1 h2 h3
        unfold lightS at h3
        have h3 : mostV h N s * h.shi ≤ 1000 * h.winch := of_decide_eq_true h3
        have h4 := (mostV_is HPT.out hN HFT.out h1).1 v HTT.out
        have h5 := (sumS_bd hn8 h1 (box_wt HK.out.ps HBX.out)).1
        have hT0 : 0 ≤ T := by have := HK.out.s1; omega
        have h6 : sumS v s * T ≤ mostV h N s * h.shi := Int.mul_le_mul h4 hab.2 hT0 (by omega)
        exact ⟨h1, h2, Int.mul_nonneg h5 hT0, by omega⟩
      have hfc : ∀ (V : World) (s : Nat), Below w6.heap.size w6 V → s < 2 ^ h.ps.length → Calls Try.prog 50 #[.agg #[.slice A h.ps.length cap, .slice J h.js.length capJ, .int .i64 h.slo, .int .i64 h.shi, .int .i64 h.winch], .int .i64 (s : Int)] V fun e w' => e = .returned (.bool (hangsB h.js s)) ∧ Below V.heap.size V w' := fun V s hb hs => refHangs_any h A J w6.heap.size cap capJ s V (((HH.out.below HB6.out hBz).more (Nat.le_trans hBz HB6.out.size)).below hb (Nat.le_refl _)) hn1 hn8 HK.out.js HK.out.j12 hs hb.size
      have hwc : ∀ (V : World) (s : Nat), Below w6.heap.size w6 V → s < 2 ^ h.ps.length → Calls Try.prog 44 #[.slice (some ⟨gt, 0, none⟩) h.ps.length ct, .int .i64 (s : Int)] V fun e w' => e = .returned (iv (sumS v s)) ∧ V = w' := fun V s hb hs => by
        rw [← sumTo_sumS hn8 hs]
        exact weight_any _ v h.ps.length _ ct s V hn8 (lt256 hn8 hs) (row_rd (own_below HO6.out hb)) (box_wt HK.out.ps HBX.out)
      have hw1 := HK.out.w1
      have hw2 := HK.out.w2
      have hws : IntKind.i64.wrap (sand : Int) = (sand : Int) := by rw [IntKind.wrap_i64]; omega
      have hww : IntKind.i64.wrap (1000 * h.winch) = 1000 * h.winch := by rw [IntKind.wrap_i64]; omega
      have hmn := grow_le_k hqg h.ps.length (by omega)
      obtain ⟨m, hm⟩ : ∃ m, manyTo (pad q) h.ps.length = m := ⟨_, rfl⟩
      rw [hm] at hmn
      obtain ⟨R, hR⟩ : ∃ R, rowB q h.ps.length = R := ⟨_, rfl⟩
      rw [hm] at hbc hlr
      rw [hR] at hbc hlr heach
      have HCC := Lib.hid hcc
      have HBC := Lib.hid hbc
      have HAC := Lib.hid hac
      have HLR := Lib.hid hlr
      have HEA := Lib.hid heach
      have HFC := Lib.hid hfc
      have HWC := Lib.hid hwc
      have hz2 : W2.heap.size ≤ w6.heap.size := HB6.out.size
      clear hcc hbc hac hab hT hlr heach hfc hwc hm hR hmem hlight hql hqg hqh hqe htk hq8 hv72 hv73 hrq hown7 hfew hN hb6
      obtain ⟨p0, p1, p2, p3, p4⟩ := HKB.out _ HB6.out
      go_wp2_with fail
      refine (HCC.out _ (belowR _)).mono ?_
      rintro e w7 ⟨rfl, hb7⟩
      have HB7 := Lib.hid hb7
      clear hb7 p0 p1 p2 p3 p4
      have HB72 := Lib.hid (belowT HB6.out HB7.out)
      go_wp2_with fail
      have HBD := Lib.hid (belowDq HB7.out)
      have HBD2 := Lib.hid (belowT HB6.out HBD.out)
      go_region_held3 (fun W => W.cell? ⟨w.heap.size, 0, none⟩ = some (.slice A h.ps.length cap) ∧ W.cell? ⟨w.heap.size, 1, none⟩ = some (.slice J h.js.length capJ) ∧ W.cell? ⟨w.heap.size, 2, none⟩ = some (.int .i64 h.slo) ∧ W.cell? ⟨w.heap.size, 3, none⟩ = some (.int .i64 h.shi) ∧ W.cell? ⟨w.heap.size, 4, none⟩ = some (.int .i64 h.winch) ∧ W.cell? ⟨W1.heap.size, 2, none⟩ = some (.int .u32 sand)) (first | exact ⟨(HKB.out _ HBD2.out).1, (HKB.out _ HBD2.out).2.1, (HKB.out _ HBD2.out).2.2.1, (HKB.out _ HBD2.out).2.2.2.1, (HKB.out _ HBD2.out).2.2.2.2, (HKP.out _ HBD2.out).2.2.1⟩ | exact ⟨(HKB.out _ HB82.out).1, (HKB.out _ HB82.out).2.1, (HKB.out _ HB82.out).2.2.1, (HKB.out _ HB82.out).2.2.2.1, (HKB.out _ HB82.out).2.2.2.2, (HKP.out _ HB82.out).2.2.1⟩ | exact ⟨(HKB.out _ HB92.out).1, (HKB.out _ HB92.out).2.1, (HKB.out _ HB92.out).2.2.1, (HKB.out _ HB92.out).2.2.2.1, (HKB.out _ HB92.out).2.2.2.2, (HKP.out _ HB92.out).2.2.1⟩) (((first | (go_at_call 49; ((with_reducible refine (HBC.out _ HBD.out).mono ?_); rintro e w8 ⟨hb8, A8, c8, rfl, hown8⟩; have HB8 := Lib.hid (belowT HBD.out hb8); have HB82 := Lib.hid (belowT HB6.out HB8.out); have HO8 := Lib.hid (own_base hown8 HBD.out.size); clear hb8 hown8)) | (go_at_call 43; ((with_reducible refine (HAC.out _).mono ?_); rintro e w9 ⟨rfl, hb9⟩; have HB9 := Lib.hid (belowT HB8.out hb9); have HB92 := Lib.hid (belowT HB6.out HB9.out); have HO9 := Lib.hid (own_below HO8.out hb9); clear hb9)))))
      have hrm : Rd1 nv w9 w9.heap.size A8 R := by
        have h9 := HO9.out
        rw [← HLR.out] at h9
        obtain ⟨A9, c9, hv9, hR9, _⟩ := own_rd1 h9
        injection hv9 with h2
        rw [h2]; exact hR9
      have HRM := Lib.hid hrm
      clear hrm
      go_wp2_with fail
      obtain ⟨wq, hwq⟩ : ∃ wq : World, wq = w9 := ⟨_, rfl⟩
      have HBQ : Hid (Below w9.heap.size w9 wq) := Lib.hid (by rw [hwq]; exact belowR _)
      rw [← hwq]
      clear hwq
      go_loopw [19] (fun vi wr => ∃ k : Nat, k ≤ m ∧ vi = .int .i64 k ∧ Hid (Below w9.heap.size w9 wr)) (fun vi _ => m - (intOf vi).toNat)
      case atStart => exact ⟨0, Nat.zero_le _, rfl, HBQ⟩
      case round =>
        obtain ⟨k, hk, rfl, HBR⟩ := hrel
        by_cases hlt : k < m
        · obtain ⟨s, hs⟩ : ∃ s, R[k]? = some s := ⟨_, List.getElem?_eq_getElem (by rw [HLR.out]; exact hlt)⟩
          obtain ⟨hs2, hsh, hX0, hX1⟩ := HEA.out k s hs
          obtain ⟨b8, o8, rfl, hb8, d0⟩ := (HRM.out.below HBR.out (Nat.le_refl _)) k s hs
          have HB69 := Lib.hid (belowT HB9.out HBR.out)
          have hfk := fun V hb => HFC.out V s hb hs2
          have hwk := fun V hb => HWC.out V s hb hs2
          rw [hsh] at hfk
          obtain ⟨S, hS⟩ : ∃ S, sumS v s = S := ⟨_, rfl⟩
          rw [hS] at hwk hX0 hX1
          obtain ⟨X, hX⟩ : ∃ X, S * T = X := ⟨_, rfl⟩
          rw [hX] at hX0 hX1
          have hwx : IntKind.i64.wrap (S * T) = X := by rw [hX, IntKind.wrap_i64]; omega
          have hdx : decide (1000 * h.winch < X) = false := decide_eq_false (by omega)
          have hk0 : (0 : Int) ≤ (k : Int) := by omega
          have hkz : (k : Int) < (m : Int) := by omega
          have HFK := Lib.hid hfk
          have HWK := Lib.hid hwk
          have HSG : Hid (∀ W, Below wr.heap.size wr W → W.cell? ⟨b8, o8 + k, none⟩ = some (.int .i64 (s : Int))) := Lib.hid fun W hb => keepC hb d0
          have HBRD := Lib.hid (belowDq (belowR wr))
          have HX1 := Lib.hid (belowT HB69.out HBRD.out)
          have HX2 := Lib.hid (belowT HB6.out HX1.out)
          clear hs hsh hfk hwk hS hX d0 hX0 hX1
          go_wp2_with fail
          go_region_held3 (fun W => W.cell? ⟨w.heap.size, 0, none⟩ = some (.slice A h.ps.length cap) ∧ W.cell? ⟨w.heap.size, 1, none⟩ = some (.slice J h.js.length capJ) ∧ W.cell? ⟨w.heap.size, 2, none⟩ = some (.int .i64 h.slo) ∧ W.cell? ⟨w.heap.size, 3, none⟩ = some (.int .i64 h.shi) ∧ W.cell? ⟨w.heap.size, 4, none⟩ = some (.int .i64 h.winch) ∧ W.cell? ⟨b8, o8 + k, none⟩ = some (.int .i64 (s : Int))) (first | exact ⟨(HKB.out _ HX2.out).1, (HKB.out _ HX2.out).2.1, (HKB.out _ HX2.out).2.2.1, (HKB.out _ HX2.out).2.2.2.1, (HKB.out _ HX2.out).2.2.2.2, HSG.out _ HBRD.out⟩ | exact ⟨(HKB.out _ HY2.out).1, (HKB.out _ HY2.out).2.1, (HKB.out _ HY2.out).2.2.1, (HKB.out _ HY2.out).2.2.2.1, (HKB.out _ HY2.out).2.2.2.2, HSG.out _ HY.out⟩) (((first | (go_at_call 50; ((with_reducible refine (HFK.out _ HX1.out).mono ?_); rintro e w10 ⟨rfl, hb10⟩; have HY := Lib.hid (belowT HBRD.out hb10); have HY1 := Lib.hid (belowT HB69.out HY.out); have HY2 := Lib.hid (belowT HB6.out HY1.out); clear hb10)) | (go_at_call 44; ((with_reducible refine (HWK.out _ HY1.out).mono ?_); rintro e w' ⟨rfl, rfl⟩)))))
          go_wp2_with fail
          go_roundw
          case rel => exact ⟨k + 1, by omega, by go_num, Lib.hid (belowT HBR.out HY.out)⟩
          case measure => simp [intOf]; omega
        · go_wp2_with (go_at_call 24; (with_reducible refine (HAW.out _).mono ?_); rintro e w11 ⟨rfl, hb11⟩; have HB11 := Lib.hid (belowT HBR.out hb11); clear hb11)
          go_ret
          exact ⟨rfl, belowT HB0.out (belowT HB6.out (belowT HB9.out HB11.out))⟩
end Go.Proofs.Ytojgdallodmanaa
