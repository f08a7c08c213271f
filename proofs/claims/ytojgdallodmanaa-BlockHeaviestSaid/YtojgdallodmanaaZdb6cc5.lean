/- The laws' holds, for weights of a truth. BlockHeaviest: the walk. -/
import Derived.Test.YtojgdallodmanaaYTrue
import Derived.Test.YtojgdallodmanaaYH5
namespace Go.Proofs.Ytojgdallodmanaa
open Go.RowKit

set_option maxRecDepth 100000 in
set_option maxHeartbeats 8000000 in
theorem holds_any (h : Hul) (A J : Option Addr) (B cap capJ : Nat) (AL : Option Addr) (l : List Wgh) (capL : Nat) (AW : Option Addr) (W : Nat → Int) (capW : Nat) (w : World) (hH : HulRd w B h A cap J capJ) (hk : HulOk h)
    (hL : RdN 3 encWgh w B AL l) (hw : WghsOk h.ps.length l) (hW : Rd1 iv w w.heap.size AW (rowW W h.ps.length)) (ht : TruthP h l W) (hB : B ≤ w.heap.size) :
    Calls Try.prog 46 #[hv h A cap J capJ, .slice AL l.length capL, .slice AW h.ps.length capW] w fun e w' => e = .returned (.bool true) ∧ Below w.heap.size w w' := by
  obtain ⟨W1, hW1, hb0, hzz, p0, p1, p2, p3, p4⟩ := hulBox w h A cap J capJ
  have hn8 := hk.n8
  have hn1 := hk.n1
  have HKB : Hid (∀ W, Below W1.heap.size W1 W → W.cell? ⟨w.heap.size, 0, none⟩ = some (.slice A h.ps.length cap)) := Lib.hid fun W hb => keepC hb p0
  have hBz : B ≤ W1.heap.size := Nat.le_trans hB hb0.size
  have hzW : w.heap.size ≤ W1.heap.size := hb0.size
  have HP := Lib.hid (hH.ps.below hb0 hB)
  have HL := Lib.hid (hL.below hb0 hB)
  have HW := Lib.hid (hW.below hb0 (Nat.le_refl _))
  have HB0 := Lib.hid hb0
  have hbx : Box h W := ht.1
  have hag : agreesB l W = true := agrees_iff.2 ht.2
  have hac : ∀ V, Below W1.heap.size W1 V → Calls Try.prog 94 #[.slice AL l.length capL, .slice AW h.ps.length capW] V fun e w' => e = .returned (.bool true) ∧ Below V.heap.size V w' := fun V hb => by
    rw [← hag]
    exact agrees_any AL l capL AW W h.ps.length B capW V hn8 (HL.out.below hb hBz) hw ((HW.out.below hb hzW).more (Nat.le_trans hzW hb.size)) (box_wt hk.ps hbx) (Nat.le_trans hBz hb.size)
  have HAC := Lib.hid hac
  have HBX := Lib.hid (fun i p (hp : h.ps[i]? = some p) => hbx i p hp)
  have hpm := hH.pm
  have hpl := hH.pl
  unfold maxLen at hpm
  clear hb0 hH hL hW hk ht hzz hac hag hbx hw
  go_enter Try.func46, Try.ntmps46
  go_wp2_with fail
  clear hW1 p0 p1 p2 p3 p4
  obtain ⟨wq, hwq⟩ : ∃ wq : World, wq = W1 := ⟨_, rfl⟩
  have HBQ : Hid (Below W1.heap.size W1 wq) := Lib.hid (by rw [hwq]; exact belowR _)
  rw [← hwq]
  clear hwq
  go_loopw [7] (fun vi wr => ∃ k : Nat, k ≤ h.ps.length ∧ vi = .int .i64 k ∧ Hid (Below W1.heap.size W1 wr)) (fun vi _ => h.ps.length - (intOf vi).toNat)
  case atStart => exact ⟨0, Nat.zero_le _, rfl, HBQ⟩
  case round =>
    obtain ⟨k, hk, rfl, HBR⟩ := hrel
    have p0 := HKB.out _ HBR.out
    by_cases hlt : k < h.ps.length
    · obtain ⟨x, hx⟩ : ∃ x, h.ps[k]? = some x := ⟨_, List.getElem?_eq_getElem hlt⟩
      have hxb := HBX.out k x hx
      obtain ⟨b, off, rfl, _, e0, e1, e2⟩ := prtAt (HP.out.below HBR.out hBz) hx
      obtain ⟨b9, o9, rfl, _, hc9⟩ := (HW.out.below HBR.out hzW) k (W k) (rowW_at W hlt)
      obtain ⟨y, hy⟩ : ∃ y, W k = y := ⟨_, rfl⟩
      rw [hy] at hxb hc9
      obtain ⟨xn, xlo, xhi⟩ := x
      simp only at e0 e1 e2 hxb
      have hk0 : (0 : Int) ≤ (k : Int) := by omega
      have hkz : (k : Int) < (h.ps.length : Int) := by omega
      have hd1 : decide (y < xlo) = false := by simpa using hxb.1
      have hd2 : decide (xhi < y) = false := by simpa using hxb.2
      obtain ⟨hxb0, hxb1⟩ := hxb
      clear hx hy e0
      go_wp2_with fail
      go_quiet (fail)
      go_wp2_with fail
      go_roundw
      case rel => exact ⟨k + 1, by omega, by go_num, Lib.hid (belowN HBR.out _)⟩
      case measure => simp [intOf]; omega
    · obtain rfl : k = h.ps.length := by omega
      go_wp2_with (go_at_call 94; (with_reducible refine (HAC.out _ HBR.out).mono ?_); rintro e w3 ⟨rfl, hb3⟩; have HB3 := Lib.hid (belowT HBR.out hb3); clear hb3)
      go_ret
      exact ⟨rfl, belowT HB0.out HB3.out⟩
end Go.Proofs.Ytojgdallodmanaa

namespace Go.Proofs.Ytojgdallodmanaa
open Go.RowKit

set_option maxRecDepth 100000 in
set_option maxHeartbeats 16000000 in
theorem heaviestLaw_any (h : Hul) (A J : Option Addr) (cap capJ : Nat) (AL : Option Addr) (l : List Wgh) (capL : Nat) (AX AR : Option Addr) (xs rs : List Int) (capX capR sand blk B : Nat) (w : World)
    (hH : HulRd w B h A cap J capJ) (hL : RdN 3 encWgh w B AL l) (hlc : l.length ≤ capL) (hcm : capL ≤ maxLen) (hP : PastRd w B AX xs AR rs sand blk) (hB : B ≤ w.heap.size) :
    Calls Try.prog 10 #[hv h A cap J capJ, .slice AL l.length capL, pastV AX xs capX AR rs capR sand blk] w fun e w' => e = .returned (.bool true) ∧ Below w.heap.size w w' := by
  obtain ⟨W1, hW1, hb1, hzz, p0, p1, p2, p3, p4⟩ := hulBox w h A cap J capJ
  obtain ⟨W2, hW2, hb2, q0, q1, q2, q3⟩ := pastBox W1 AX xs.length capX AR rs.length capR sand blk
  have hb0 := belowT hb1 hb2
  have HKB : Hid (∀ W, Below W2.heap.size W2 W → W.cell? ⟨w.heap.size, 0, none⟩ = some (.slice A h.ps.length cap) ∧ W.cell? ⟨w.heap.size, 1, none⟩ = some (.slice J h.js.length capJ) ∧ W.cell? ⟨w.heap.size, 2, none⟩ = some (.int .i64 h.slo) ∧ W.cell? ⟨w.heap.size, 3, none⟩ = some (.int .i64 h.shi) ∧ W.cell? ⟨w.heap.size, 4, none⟩ = some (.int .i64 h.winch)) := Lib.hid fun W hb => ⟨keepC hb (keepC hb2 p0), keepC hb (keepC hb2 p1), keepC hb (keepC hb2 p2), keepC hb (keepC hb2 p3), keepC hb (keepC hb2 p4)⟩
  have HKP : Hid (∀ W, Below W2.heap.size W2 W → W.cell? ⟨W1.heap.size, 0, none⟩ = some (.slice AX xs.length capX) ∧ W.cell? ⟨W1.heap.size, 1, none⟩ = some (.slice AR rs.length capR) ∧ W.cell? ⟨W1.heap.size, 2, none⟩ = some (.int .u32 sand) ∧ W.cell? ⟨W1.heap.size, 3, none⟩ = some (.int .u8 blk)) := Lib.hid fun W hb => ⟨keepC hb q0, keepC hb q1, keepC hb q2, keepC hb q3⟩
  have hBz : B ≤ W2.heap.size := Nat.le_trans hB hb0.size
  have HH := Lib.hid (hH.below hb0 hB)
  have HL := Lib.hid (hL.below hb0 hB)
  have HX := Lib.hid (hP.x.below hb0 hB)
  have HR := Lib.hid (hP.r.below hb0 hB)
  have HXU := Lib.hid hP.xu
  have HRU := Lib.hid hP.ru
  have HB0 := Lib.hid hb0
  have hss := hP.s
  have hbb := hP.b
  have hlm : l.length ≤ maxLen := Nat.le_trans hlc hcm
  have HLC := Lib.hid hlc
  have HAW := Lib.hid awake_any
  have hset := sets_any h A J B cap capJ AL l capL W2 HH.out HL.out hlm hBz
  obtain ⟨g, hg⟩ : ∃ g, (openE h l == 0 || openE h l == 9) = g := ⟨_, rfl⟩
  rw [hg] at hset
  have HSET := Lib.hid hset
  clear hb0 hb1 hH hL hP hlc hcm hzz hset
  obtain ⟨p0, p1, p2, p3, p4⟩ := HKB.out _ (belowR W2)
  obtain ⟨q0, q1, q2, q3⟩ := HKP.out _ (belowR W2)
  cases g
  · have hne := sets_no hg
    clear hg
    go_enter Try.func10, Try.ntmps10
    go_wp2_with fail
    refine HSET.out.mono ?_
    rintro e w1 ⟨rfl, hb3⟩
    have HB3 := Lib.hid hb3
    clear hb3 hW1 hW2 p0 p1 p2 p3 p4 q0 q1 q2 q3 hb2
    obtain ⟨p0, p1, p2, p3, p4⟩ := HKB.out _ HB3.out
    have hwt := heaviest_any h A J B cap capJ AL l capL 1 w1 (HH.out.below HB3.out hBz) (HL.out.below HB3.out hBz) HLC.out (Nat.le_trans hBz HB3.out.size)
    have hen : enterE h l 1 = openE h l := by unfold enterE; rw [if_neg hne]
    have HWT := Lib.hid hwt
    have HEN := Lib.hid hen
    clear hwt hen
    go_wp2_with fail
    refine HWT.out.mono ?_
    rintro e w4 ⟨hb4, hcase⟩
    rw [HEN.out] at hcase
    have HB4 := Lib.hid (belowT HB3.out hb4)
    clear hb4 p0 p1 p2 p3 p4
    rcases hcase with ⟨_, rfl⟩ | ⟨h0, _⟩
    case inr => exact absurd h0 hne
    obtain ⟨E, hE⟩ : ∃ E, openE h l = E := ⟨_, rfl⟩
    rw [hE] at hne ⊢
    have hcb : (E != 0) = true := by simpa using hne
    clear hE hne
    go_wp2_with (go_at_call 24; refine (HAW.out _).mono ?_; rintro e w5 ⟨rfl, hb5⟩; have HB5 := Lib.hid (belowT HB4.out hb5); clear hb5)
    go_ret
    exact ⟨rfl, belowT HB0.out HB5.out⟩
  · have hp := sets_iff.1 hg
    have hk := hulOk (openPre_zero hp).1
    have hwo := wghsOk hp
    have hbx := truthF_box hk.ps xs
    obtain ⟨hpt, htt⟩ := told_pre hp HRU.out.2 hbx (us := rs)
    have hft : Feas h (toldL rs (truthF h xs) l) := ⟨_, htt⟩
    have htr := truth_any h A J B cap capJ AX xs capX
    have HK := Lib.hid hk
    have HWO := Lib.hid hwo
    have HBX := Lib.hid hbx
    have HPT := Lib.hid hpt
    have HTT := Lib.hid htt
    have HFT := Lib.hid hft
    have hn8 := hk.n8
    have hn1 := hk.n1
    obtain ⟨v, hv⟩ : ∃ v, truthF h xs = v := ⟨_, rfl⟩
    rw [hv] at HBX HPT HTT HFT htr
    obtain ⟨l', hl'⟩ : ∃ l', toldL rs v l = l' := ⟨_, rfl⟩
    rw [hl'] at HPT HTT HFT
    have HL' := Lib.hid hl'
    have HTR := Lib.hid htr
    clear hg hp hk hwo hbx hpt htt hft hv hl' htr
    go_enter Try.func10, Try.ntmps10
    go_wp2_with fail
    refine HSET.out.mono ?_
    rintro e w1 ⟨rfl, hb3⟩
    have HB3 := Lib.hid hb3
    clear hb3 hW1 hW2 p0 p1 p2 p3 p4 q0 q1 q2 q3 hb2
    obtain ⟨p0, p1, p2, p3, p4⟩ := HKB.out _ HB3.out
    obtain ⟨q0, q1, q2, q3⟩ := HKP.out _ HB3.out
    go_wp2_with fail
    refine (HTR.out w1 (HH.out.below HB3.out hBz) HK.out HXU.out (HX.out.below HB3.out hBz) (Nat.le_trans hBz HB3.out.size)).mono ?_
    rintro e w4 ⟨hb4, gt, ct, rfl, hown4⟩
    have HB4 := Lib.hid (belowT HB3.out hb4)
    have HO4 := Lib.hid hown4
    clear hb4 hown4 p0 p1 p2 p3 p4 q0 q1 q2 q3
    obtain ⟨q0, q1, q2, q3⟩ := HKP.out _ HB4.out
    have htc : ∀ V, Below w4.heap.size w4 V → Calls Try.prog 41 #[.slice AL l.length capL, .slice (some ⟨gt, 0, none⟩) h.ps.length ct, .slice AR rs.length capR] V (WghPost l' V) := fun V hb => by
      rw [← HL'.out]
      exact told_any h.ps.length AL l capL (some ⟨gt, 0, none⟩) v ct AR rs capR B V hn8 (HL.out.below (belowT HB4.out hb) hBz) HWO.out (row_rd (own_below HO4.out hb)) (box_wt HK.out.ps HBX.out) HRU.out (HR.out.below (belowT HB4.out hb) hBz) (Nat.le_trans hBz (belowT HB4.out hb).size)
    have hhc : ∀ V, Below w4.heap.size w4 V → Calls Try.prog 42 #[hv h A cap J capJ, .int .u8 blk] V fun e w' => Below V.heap.size V w' ∧ ∃ s : Nat, e = .returned (iv s) ∧ 0 < s ∧ s < 2 ^ h.ps.length ∧ hangsB h.js s = true := fun V hb => hung_any h A J B cap capJ blk V (HH.out.below (belowT HB4.out hb) hBz) hn1 hn8 HK.out.js HK.out.j12 hbb (Nat.le_trans hBz (belowT HB4.out hb).size)
    have HTC := Lib.hid htc
    have HHC := Lib.hid hhc
    clear htc hhc
    go_wp2_with fail
    have HBD := Lib.hid (belowDq (belowR w4))
    have HBD4 := Lib.hid (belowT HB4.out HBD.out)
    clear q0 q1 q2 q3
    go_region_held3 (fun W => W.cell? ⟨w.heap.size, 0, none⟩ = some (.slice A h.ps.length cap) ∧ W.cell? ⟨w.heap.size, 1, none⟩ = some (.slice J h.js.length capJ) ∧ W.cell? ⟨w.heap.size, 2, none⟩ = some (.int .i64 h.slo) ∧ W.cell? ⟨w.heap.size, 3, none⟩ = some (.int .i64 h.shi) ∧ W.cell? ⟨w.heap.size, 4, none⟩ = some (.int .i64 h.winch) ∧ W.cell? ⟨W1.heap.size, 1, none⟩ = some (.slice AR rs.length capR) ∧ W.cell? ⟨W1.heap.size, 3, none⟩ = some (.int .u8 blk)) (first | exact ⟨(HKB.out _ HBD4.out).1, (HKB.out _ HBD4.out).2.1, (HKB.out _ HBD4.out).2.2.1, (HKB.out _ HBD4.out).2.2.2.1, (HKB.out _ HBD4.out).2.2.2.2, (HKP.out _ HBD4.out).2.1, (HKP.out _ HBD4.out).2.2.2⟩ | exact ⟨(HKB.out _ HB54.out).1, (HKB.out _ HB54.out).2.1, (HKB.out _ HB54.out).2.2.1, (HKB.out _ HB54.out).2.2.2.1, (HKB.out _ HB54.out).2.2.2.2, (HKP.out _ HB54.out).2.1, (HKP.out _ HB54.out).2.2.2⟩ | exact ⟨(HKB.out _ HB64.out).1, (HKB.out _ HB64.out).2.1, (HKB.out _ HB64.out).2.2.1, (HKB.out _ HB64.out).2.2.2.1, (HKB.out _ HB64.out).2.2.2.2, (HKP.out _ HB64.out).2.1, (HKP.out _ HB64.out).2.2.2⟩) (((first | (go_at_call 41; ((with_reducible refine (HTC.out _ HBD.out).mono ?_); rintro e w5 ⟨hb5, A5, c5, rfl, hR5, hc5, hcm5⟩; have HB5 := Lib.hid (belowT HBD.out hb5); have HB54 := Lib.hid (belowT HB4.out HB5.out); have HR5 := Lib.hid hR5; have HC5 := Lib.hid hc5; clear hb5 hR5 hc5 hcm5)) | (go_at_call 42; ((with_reducible refine (HHC.out _ HB5.out).mono ?_); rintro e w6 ⟨hb6, s, rfl, hs0, hs2, hsh⟩; have HR6 := Lib.hid (HR5.out.below hb6 (Nat.le_refl _)); have hz6 : w5.heap.size ≤ w6.heap.size := hb6.size; have HB6 := Lib.hid (belowT HB5.out hb6); have HB64 := Lib.hid (belowT HB4.out HB6.out); have HSH := Lib.hid hsh; have HS2 := Lib.hid hs2; clear hb6 hsh hs2)))))
    have hbe : blockE h.ps.length h.js (s : Int) = 0 := blockE_ok hs0 HS2.out HSH.out
    have hen : enterE h l' (s : Int) = 0 := by unfold enterE; rw [if_pos (openE_zero HPT.out HFT.out)]; exact hbe
    have hpc := heaviest_any h A J w6.heap.size cap capJ A5 l' c5 (s : Int) w6 ((HH.out.below HB64.out hBz).more (Nat.le_trans hBz HB64.out.size)) (HR6.out.more hz6) HC5.out (Nat.le_refl _)
    have HPC := Lib.hid hpc
    have HEN := Lib.hid hen
    clear hbe hen hpc
    obtain ⟨p0, p1, p2, p3, p4⟩ := HKB.out _ HB64.out
    go_wp2_with fail
    refine HPC.out.mono ?_
    rintro e w7 ⟨hb7, hcase⟩
    rcases hcase with ⟨hne, _⟩ | ⟨_, _, _, _, N, A7, c7, hN, rfl, hown7⟩
    · exact absurd HEN.out hne
    rw [Int.toNat_natCast] at hown7
    have hms := mostV_is HPT.out hN HFT.out HS2.out
    obtain ⟨W, hWt, hWs, hWl⟩ := limL_truth HPT.out hN HS2.out hms
    rw [hWl] at hown7
    have hms' : IsMost h l' s (sumS W s) := by rw [hWs]; exact hms
    obtain ⟨g7, cp7, he7, _, _, _⟩ := own_form hown7 hn1
    rw [he7] at hown7 ⊢
    have HO7 := Lib.hid hown7
    have HWT := Lib.hid hWt
    have HMS := Lib.hid hms'
    have HB74 := Lib.hid (belowT HB64.out hb7)
    have HB74' := Lib.hid (belowT HB6.out hb7)
    have HR7 := Lib.hid (HR6.out.below hb7 hz6)
    have hz7 : w5.heap.size ≤ w7.heap.size := Nat.le_trans hz6 hb7.size
    clear hms hms' hWt hWs hWl he7 hown7 hN hb7 p0 p1 p2 p3 p4 HPC
    have hpc := pull_any h A J w7.heap.size cap capJ A5 l' c5 (s : Int) w7 ((HH.out.below HB74.out hBz).more (Nat.le_trans hBz HB74.out.size)) (HR7.out.more hz7) HC5.out (Nat.le_refl _)
    have HPC := Lib.hid hpc
    clear hpc
    obtain ⟨p0, p1, p2, p3, p4⟩ := HKB.out _ HB74.out
    go_wp2_with fail
    refine HPC.out.mono ?_
    rintro e w9 ⟨hb9, hcase⟩
    rcases hcase with ⟨hne, _⟩ | ⟨_, _, _, _, N2, hN2, rfl⟩
    · exact absurd HEN.out hne
    have HB9 := Lib.hid hb9
    have HB94 := Lib.hid (belowT HB74.out hb9)
    have hmv : mostV h N2 s = sumS W s := (mostV_is HPT.out hN2 HFT.out HS2.out).uniq HMS.out
    have hle : sumS v s ≤ sumS W s := HMS.out.1 v HTT.out
    have hsb := sumS_bd hn8 HS2.out (box_wt HK.out.ps HBX.out)
    have hSb := sumS_bd hn8 HS2.out (box_wt HK.out.ps HWT.out.1)
    have hsh3 := HK.out.s3
    have hsh1 : 0 ≤ h.shi := by have := HK.out.s1; have := HK.out.s2; omega
    have hwc : ∀ V, Below w7.heap.size w7 V → Calls Try.prog 44 #[.slice (some ⟨g7, 0, none⟩) h.ps.length cp7, .int .i64 s] V fun e w' => e = .returned (iv (sumS W s)) ∧ V = w' := fun V hb => by
      rw [← sumTo_sumS hn8 HS2.out]
      exact weight_any _ W h.ps.length _ cp7 s V hn8 (lt256 hn8 HS2.out) (row_rd (own_below HO7.out hb)) (box_wt HK.out.ps HWT.out.1)
    have hvc : ∀ V, Below w4.heap.size w4 V → Calls Try.prog 44 #[.slice (some ⟨gt, 0, none⟩) h.ps.length ct, .int .i64 s] V fun e w' => e = .returned (iv (sumS v s)) ∧ V = w' := fun V hb => by
      rw [← sumTo_sumS hn8 HS2.out]
      exact weight_any _ v h.ps.length _ ct s V hn8 (lt256 hn8 HS2.out) (row_rd (own_below HO4.out hb)) (box_wt HK.out.ps HBX.out)
    have hhc : ∀ V, Below w9.heap.size w9 V → Calls Try.prog 46 #[hv h A cap J capJ, .slice A5 l'.length c5, .slice (some ⟨g7, 0, none⟩) h.ps.length cp7] V fun e w' => e = .returned (.bool true) ∧ Below V.heap.size V w' := fun V hb => holds_any h A J V.heap.size cap capJ A5 l' c5 _ W cp7 V ((HH.out.below (belowT HB94.out hb) hBz).more (Nat.le_trans hBz (belowT HB94.out hb).size)) HK.out (((HR7.out.below HB9.out hz7).below hb (Nat.le_trans hz7 HB9.out.size)).more (Nat.le_trans hz7 (Nat.le_trans HB9.out.size hb.size))) (wghsOk HPT.out) (row_rd (own_below HO7.out (belowT HB9.out hb))) HWT.out (Nat.le_refl _)
    rw [Int.toNat_natCast, hmv]
    have hpvd : (pullV h (leastV h N2 s) (sumS W s)).2 = upD (sumS W s * h.shi) 1000 := rfl
    have hnn : 0 ≤ sumS W s * h.shi := Int.mul_nonneg hSb.1 hsh1
    have hnm : sumS W s * h.shi ≤ 1600000000 := by
      have := Int.mul_le_mul hSb.2 hsh3 hsh1 (by omega)
      omega
    have hup := upD_nat hnn
    rw [← hpvd] at hup
    obtain ⟨Lo, hLo⟩ : ∃ x, (pullV h (leastV h N2 s) (sumS W s)).1 = x := ⟨_, rfl⟩
    obtain ⟨Hi, hHi⟩ : ∃ x, (pullV h (leastV h N2 s) (sumS W s)).2 = x := ⟨_, rfl⟩
    rw [hHi] at hup
    rw [hLo, hHi]
    obtain ⟨S, hS⟩ : ∃ x, sumS W s = x := ⟨_, rfl⟩
    rw [hS] at hwc hle hSb hnn hnm hup
    obtain ⟨R, hR⟩ : ∃ x, sumS v s = x := ⟨_, rfl⟩
    rw [hR] at hvc hle hsb
    obtain ⟨X, hXe⟩ : ∃ x, S * h.shi = x := ⟨_, rfl⟩
    rw [hXe] at hnn hnm hup
    have hwx : IntKind.i64.wrap (S * h.shi) = X := by rw [hXe, IntKind.wrap_i64]; omega
    obtain ⟨hup0, hup1⟩ := hup
    have hwh : IntKind.i64.wrap (1000 * Hi) = 1000 * Hi := by rw [IntKind.wrap_i64]; omega
    have hwi : IntKind.i64.wrap (Hi - 1) = Hi - 1 := by rw [IntKind.wrap_i64]; omega
    have hwj : IntKind.i64.wrap (1000 * (Hi - 1)) = 1000 * (Hi - 1) := by rw [IntKind.wrap_i64]; omega
    have HWC := Lib.hid hwc
    have HVC := Lib.hid hvc
    have HHC2 := Lib.hid hhc
    obtain ⟨W9, hW9⟩ : ∃ W9, w9.alloc (.cells #[iv Lo, iv Hi] 25) = W9 := ⟨_, rfl⟩
    have hb99 : Below w9.heap.size w9 W9 := by rw [← hW9]; exact belowA (belowR _) _
    have r0 : W9.cell? ⟨w9.heap.size, 0, none⟩ = some (iv Lo) := by rw [← hW9]; clear hW9; go_simp
    have r1 : W9.cell? ⟨w9.heap.size, 1, none⟩ = some (iv Hi) := by rw [← hW9]; clear hW9; go_simp
    have HKR : Hid (∀ W, Below W9.heap.size W9 W → W.cell? ⟨w9.heap.size, 0, none⟩ = some (iv Lo) ∧ W.cell? ⟨w9.heap.size, 1, none⟩ = some (iv Hi)) := Lib.hid fun W hb => ⟨keepC hb r0, keepC hb r1⟩
    have HB99 := Lib.hid hb99
    clear hwc hvc hhc hsb hSb hLo hHi hS hR hXe hb99 hmv hpvd p0 p1 p2 p3 p4
    obtain ⟨p0, p1, p2, p3, p4⟩ := HKB.out _ (belowT HB94.out HB99.out)
    go_wp2_with fail
    refine (HHC2.out _ HB99.out).mono ?_
    rintro e w10 ⟨rfl, hb10⟩
    have HB10 := Lib.hid (belowT HB99.out hb10)
    have HB109 := Lib.hid hb10
    have HB10' := Lib.hid (belowT HB9.out HB10.out)
    clear hb10 hW9 r0 r1 p0 p1 p2 p3 p4
    obtain ⟨r0, r1⟩ := HKR.out _ HB109.out
    obtain ⟨p0, p1, p2, p3, p4⟩ := HKB.out _ (belowT HB94.out HB10.out)
    have hdl : decide (X ≤ 1000 * Hi) = true := decide_eq_true (by omega)
    have hdh : decide (1000 * (Hi - 1) < X) = true := decide_eq_true (by omega)
    have hdr : decide (R ≤ S) = true := decide_eq_true hle
    go_wp2_with fail
    have hwcn : ∀ n, Calls Try.prog 44 #[.slice (some ⟨g7, 0, none⟩) h.ps.length cp7, .int .i64 s] (w10.drewN n) fun e w' => e = .returned (iv S) ∧ w' = w10.drewN n := fun n => (HWC.out _ (belowT HB10'.out (belowN (belowR _) n))).mono fun _ _ h => ⟨h.1, h.2.symm⟩
    have HWCN := Lib.hid hwcn
    clear hwcn
    go_quiet ((go_at_call 44; exact Calls.quiet_of_same (HWCN.out _)))
    have HBN := Lib.hid (belowN HB10'.out nq)
    have HBN4 := Lib.hid (belowT HB74'.out HBN.out)
    go_wp2_with (first | (go_at_call 44; (first | ((with_reducible refine (HVC.out _ HBN4.out).mono ?_); rintro e w11 ⟨rfl, rfl⟩) | ((with_reducible refine (HWC.out _ HBN.out).mono ?_); rintro e w12 ⟨rfl, rfl⟩))) | (go_at_call 24; (with_reducible refine (HAW.out _).mono ?_); rintro e w13 ⟨rfl, hb13⟩; have HB13 := Lib.hid (belowT HBN.out hb13); clear hb13))
    go_ret
    exact ⟨rfl, belowT HB0.out (belowT HB74.out HB13.out)⟩
end Go.Proofs.Ytojgdallodmanaa
