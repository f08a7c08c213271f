/- BlockTrue: the walk. BlockWeights: the walk. -/
import Derived.Deep.DeepCutAuto
import Derived.Test.YtojgdallodmanaaZc367d5
import Derived.Test.YtojgdallodmanaaZ847ce7
namespace Go.Proofs.Ytojgdallodmanaa
open Go.RowKit

theorem HulRd.more {w : World} {B B' : Nat} {h : Hul} {A J : Option Addr} {cap capJ : Nat} (H : HulRd w B h A cap J capJ) (hB : B ≤ B') : HulRd w B' h A cap J capJ := ⟨H.ps.more hB, H.js.more hB, H.pl, H.pm, H.jl, H.jm, H.nm⟩
/-- A past as the laws take it. -/
structure PastRd (w : World) (B : Nat) (AX : Option Addr) (xs : List Int) (AR : Option Addr) (rs : List Int) (sand blk : Nat) : Prop where
  x : Rd1 uv w B AX xs
  r : Rd1 uv w B AR rs
  xu : U32s xs
  ru : U32s rs
  s : sand < 4294967296
  b : blk < 256
abbrev pastV (AX : Option Addr) (xs : List Int) (capX : Nat) (AR : Option Addr) (rs : List Int) (capR sand blk : Nat) : Value := .agg #[.slice AX xs.length capX, .slice AR rs.length capR, .int .u32 sand, .int .u8 blk]
theorem pastBox (w : World) (AX : Option Addr) (n capX : Nat) (AR : Option Addr) (m capR sand blk : Nat) : ∃ W1, w.alloc (.cells #[.slice AX n capX, .slice AR m capR, .int .u32 sand, .int .u8 blk] 55) = W1 ∧ Below w.heap.size w W1 ∧
    W1.cell? ⟨w.heap.size, 0, none⟩ = some (.slice AX n capX) ∧ W1.cell? ⟨w.heap.size, 1, none⟩ = some (.slice AR m capR) ∧ W1.cell? ⟨w.heap.size, 2, none⟩ = some (.int .u32 sand) ∧ W1.cell? ⟨w.heap.size, 3, none⟩ = some (.int .u8 blk) :=
  ⟨_, rfl, belowA (belowR _) _, by go_simp, by go_simp, by go_simp, by go_simp⟩

set_option maxRecDepth 100000 in
set_option maxHeartbeats 16000000 in
theorem trueLaw_any (h : Hul) (A J : Option Addr) (cap capJ : Nat) (AL : Option Addr) (l : List Wgh) (capL : Nat) (AX AR : Option Addr) (xs rs : List Int) (capX capR sand blk B : Nat) (w : World)
    (hH : HulRd w B h A cap J capJ) (hL : RdN 3 encWgh w B AL l) (hlc : l.length ≤ capL) (hcm : capL ≤ maxLen) (hP : PastRd w B AX xs AR rs sand blk) (hB : B ≤ w.heap.size) :
    Calls Try.prog 8 #[hv h A cap J capJ, .slice AL l.length capL, pastV AX xs capX AR rs capR sand blk] w fun e w' => e = .returned (.bool true) ∧ Below w.heap.size w w' := by
  obtain ⟨W1, hW1, hb1, hzz, p0, p1, p2, p3, p4⟩ := hulBox w h A cap J capJ
  obtain ⟨W2, hW2, hb2, q0, q1, q2, q3⟩ := pastBox W1 AX xs.length capX AR rs.length capR sand blk
  have hb0 := belowT hb1 hb2
  have HKB : Hid (∀ W, Below W2.heap.size W2 W → W.cell? ⟨w.heap.size, 0, none⟩ = some (.slice A h.ps.length cap) ∧ W.cell? ⟨w.heap.size, 1, none⟩ = some (.slice J h.js.length capJ) ∧ W.cell? ⟨w.heap.size, 2, none⟩ = some (.int .i64 h.slo) ∧ W.cell? ⟨w.heap.size, 3, none⟩ = some (.int .i64 h.shi) ∧ W.cell? ⟨w.heap.size, 4, none⟩ = some (.int .i64 h.winch)) := Lib.hid fun W hb => ⟨keepC hb (keepC hb2 p0), keepC hb (keepC hb2 p1), keepC hb (keepC hb2 p2), keepC hb (keepC hb2 p3), keepC hb (keepC hb2 p4)⟩
  have HKP : Hid (∀ W, Below W2.heap.size W2 W → W.cell? ⟨W1.heap.size, 0, none⟩ = some (.slice AX xs.length capX) ∧ W.cell? ⟨W1.heap.size, 1, none⟩ = some (.slice AR rs.length capR) ∧ W.cell? ⟨W1.heap.size, 2, none⟩ = some (.int .u32 sand) ∧ W.cell? ⟨W1.heap.size, 3, none⟩ = some (.int .u8 blk)) := Lib.hid fun W hb => ⟨keepC hb q0, keepC hb q1, keepC hb q2, keepC hb q3⟩
  have hBz : B ≤ W2.heap.size := Nat.le_trans hB hb0.size
  have HH := Lib.hid (hH.below hb0 hB)
  have HL := Lib.hid (hL.below hb0 hB)
  have HX := Lib.hid (hP.x.below hb0 hB)
  have HR := Lib.hid (hP.r.below hb0 hB)
  have HXU := Lib.hid hP.xu
  have HRU := Lib.hid hP.ru
  have HB0 := Lib.hid hb0
  have hss := hP.s
  have hbb := hP.b
  have hlm : l.length ≤ maxLen := Nat.le_trans hlc hcm
  have HLC := Lib.hid hlc
  have HAW := Lib.hid awake_any
  have hset := sets_any h A J B cap capJ AL l capL W2 HH.out HL.out hlm hBz
  obtain ⟨g, hg⟩ : ∃ g, (openE h l == 0 || openE h l == 9) = g := ⟨_, rfl⟩
  rw [hg] at hset
  have HSET := Lib.hid hset
  clear hb0 hb1 hH hL hP hlc hcm hzz hset
  obtain ⟨p0, p1, p2, p3, p4⟩ := HKB.out _ (belowR W2)
  obtain ⟨q0, q1, q2, q3⟩ := HKP.out _ (belowR W2)
  cases g
  · have hne := sets_no hg
    clear hg
    go_enter Try.func8, Try.ntmps8
    go_wp2_with fail
    refine HSET.out.mono ?_
    rintro e w1 ⟨rfl, hb3⟩
    have HB3 := Lib.hid hb3
    clear hb3 hW1 hW2 p0 p1 p2 p3 p4 q0 q1 q2 q3 hb2
    obtain ⟨p0, p1, p2, p3, p4⟩ := HKB.out _ HB3.out
    have hwt := weights_any h A J B cap capJ AL l capL w1 (HH.out.below HB3.out hBz) (HL.out.below HB3.out hBz) HLC.out (Nat.le_trans hBz HB3.out.size)
    have HWT := Lib.hid hwt
    clear hwt
    go_wp2_with fail
    refine HWT.out.mono ?_
    rintro e w4 ⟨hb4, hcase⟩
    have HB4 := Lib.hid (belowT HB3.out hb4)
    clear hb4 p0 p1 p2 p3 p4
    rcases hcase with ⟨_, rfl⟩ | ⟨h0, _⟩
    case inr => exact absurd h0 hne
    obtain ⟨E, hE⟩ : ∃ E, openE h l = E := ⟨_, rfl⟩
    rw [hE] at hne ⊢
    have hcb : (E != 0) = true := by simpa using hne
    clear hE hne
    go_wp2_with (go_at_call 24; refine (HAW.out _).mono ?_; rintro e w5 ⟨rfl, hb5⟩; have HB5 := Lib.hid (belowT HB4.out hb5); clear hb5)
    go_ret
    exact ⟨rfl, belowT HB0.out HB5.out⟩
  · have hp := sets_iff.1 hg
    have hk := hulOk (openPre_zero hp).1
    have hwo := wghsOk hp
    have hbx := truthF_box hk.ps xs
    obtain ⟨hpt, htt⟩ := told_pre hp HRU.out.2 hbx (us := rs)
    have hft : Feas h (toldL rs (truthF h xs) l) := ⟨_, htt⟩
    have htr := truth_any h A J B cap capJ AX xs capX
    have HK := Lib.hid hk
    have HWO := Lib.hid hwo
    have HBX := Lib.hid hbx
    have HPT := Lib.hid hpt
    have HTT := Lib.hid htt
    have HFT := Lib.hid hft
    have hn8 := hk.n8
    have hn1 := hk.n1
    obtain ⟨v, hv⟩ : ∃ v, truthF h xs = v := ⟨_, rfl⟩
    rw [hv] at HBX HPT HTT HFT htr
    obtain ⟨l', hl'⟩ : ∃ l', toldL rs v l = l' := ⟨_, rfl⟩
    rw [hl'] at HPT HTT HFT
    have HL' := Lib.hid hl'
    have HTR := Lib.hid htr
    clear hg hp hk hwo hbx hpt htt hft hv hl' htr
    go_enter Try.func8, Try.ntmps8
    go_wp2_with fail
    refine HSET.out.mono ?_
    rintro e w1 ⟨rfl, hb3⟩
    have HB3 := Lib.hid hb3
    clear hb3 hW1 hW2 p0 p1 p2 p3 p4 q0 q1 q2 q3 hb2
    obtain ⟨p0, p1, p2, p3, p4⟩ := HKB.out _ HB3.out
    obtain ⟨q0, q1, q2, q3⟩ := HKP.out _ HB3.out
    go_wp2_with fail
    refine (HTR.out w1 (HH.out.below HB3.out hBz) HK.out HXU.out (HX.out.below HB3.out hBz) (Nat.le_trans hBz HB3.out.size)).mono ?_
    rintro e w4 ⟨hb4, gt, ct, rfl, hown4⟩
    have HB4 := Lib.hid (belowT HB3.out hb4)
    have HO4 := Lib.hid hown4
    clear hb4 hown4 p0 p1 p2 p3 p4 q0 q1 q2 q3
    obtain ⟨q0, q1, q2, q3⟩ := HKP.out _ HB4.out
    go_wp2_with fail
    refine (told_any h.ps.length AL l capL (some ⟨gt, 0, none⟩) v ct AR rs capR B w4 hn8 (HL.out.below HB4.out hBz) HWO.out (row_rd HO4.out) (box_wt HK.out.ps HBX.out) HRU.out (HR.out.below HB4.out hBz) (Nat.le_trans hBz HB4.out.size)).mono ?_
    rintro e w5 ⟨hb5, A5, c5, rfl, hR5, hc5, hcm5⟩
    rw [HL'.out] at hR5 hc5 ⊢
    have HB5 := Lib.hid (belowT HB4.out hb5)
    have HO5 := Lib.hid (own_below HO4.out hb5)
    have HR5 := Lib.hid hR5
    have HC5 := Lib.hid hc5
    clear hb5 hR5 hc5 hcm5 q0 q1 q2 q3
    obtain ⟨p0, p1, p2, p3, p4⟩ := HKB.out _ HB5.out
    go_wp2_with fail
    refine (weights_any h A J w5.heap.size cap capJ A5 l' c5 w5 ((HH.out.below HB5.out hBz).more (Nat.le_trans hBz HB5.out.size)) HR5.out HC5.out (Nat.le_refl _)).mono ?_
    rintro e w6 ⟨hb6, hcase⟩
    rcases hcase with ⟨hne, _⟩ | ⟨_, _, _, N, A6, c6, hN, rfl, hown6⟩
    · exact absurd (openE_zero HPT.out HFT.out) hne
    have HB6 := Lib.hid (belowT HB5.out hb6)
    have HO6 := Lib.hid (own_below HO5.out hb6)
    have HR6' := Lib.hid (HR5.out.below hb6 (Nat.le_refl _))
    have hz6 : w5.heap.size ≤ w6.heap.size := hb6.size
    have hspl := spansV_len h N h.ps.length
    have hspr : RdN 2 encSp w6 w6.heap.size A6 (spansV h N h.ps.length) := by
      have h1 : w6.ownsRow w5.heap.size 25 2 (.slice A6 h.ps.length c6) (spansV h N h.ps.length).length ((spansV h N h.ps.length).flatMap encSp) := by rw [hspl]; exact hown6
      obtain ⟨A9, c9, hv9, hR9, _⟩ := own_rdN encSp_len h1
      injection hv9 with h2
      rw [h2]
      exact hR9
    have hsat : ∀ i, i < h.ps.length → (spansV h N h.ps.length)[i]? = some (leastV h N (2 ^ i), mostV h N (2 ^ i)) ∧ leastV h N (2 ^ i) ≤ v i ∧ v i ≤ mostV h N (2 ^ i) := fun i hi => by
      have hp2 : 2 ^ i < 2 ^ h.ps.length := Nat.pow_lt_pow_right (by decide) hi
      have e := sumS_single v (show i < 8 by omega)
      have h1 := (leastV_is HPT.out hN HFT.out hp2).1 v HTT.out
      have h2 := (mostV_is HPT.out hN HFT.out hp2).1 v HTT.out
      rw [e] at h1 h2
      exact ⟨by simp [spansV, hi], h1, h2⟩
    have HSR := Lib.hid hspr
    have HSA := Lib.hid hsat
    have HN := Lib.hid hN
    clear hb6 hown6 hspl hspr hsat hN p0 p1 p2 p3 p4 HR5 HO5 HO4
    have hz2 : W2.heap.size ≤ w6.heap.size := HB6.out.size
    have hhc : ∀ V, Below w6.heap.size w6 V → Calls Try.prog 42 #[hv h A cap J capJ, .int .u8 blk] V fun e w' => Below V.heap.size V w' ∧ ∃ s : Nat, e = .returned (iv s) ∧ 0 < s ∧ s < 2 ^ h.ps.length ∧ hangsB h.js s = true := fun V hb => hung_any h A J B cap capJ blk V (HH.out.below (belowT HB6.out hb) hBz) hn1 hn8 HK.out.js HK.out.j12 hbb (Nat.le_trans hBz (belowT HB6.out hb).size)
    have hac : ∀ V, Calls Try.prog 43 #[.agg #[.int .i64 h.slo, .int .i64 h.shi], .int .i64 (sand : Int)] V fun e w' => e = .returned (iv (amongI h.slo h.shi sand)) ∧ Below V.heap.size V w' := fun V => among_any h.slo h.shi sand V (by have := HK.out.s1; omega) HK.out.s2 (by have := HK.out.s3; omega) (by omega) (by omega)
    have hab := amongI_bd (n := (sand : Int)) HK.out.s2
    obtain ⟨T, hT⟩ : ∃ T, amongI h.slo h.shi sand = T := ⟨_, rfl⟩
    rw [hT] at hac hab
    have HHC := Lib.hid hhc
    have HAC := Lib.hid hac
    have HAB := Lib.hid hab
    clear hhc hac hab hT
    have hws : IntKind.i64.wrap (sand : Int) = (sand : Int) := by rw [IntKind.wrap_i64]; omega
    go_wp2_with fail
    have HBD := Lib.hid (belowDq (belowR w6))
    have HBD6 := Lib.hid (belowT HB6.out HBD.out)
    go_region_held3 (fun W => W.cell? ⟨w.heap.size, 0, none⟩ = some (.slice A h.ps.length cap) ∧ W.cell? ⟨w.heap.size, 1, none⟩ = some (.slice J h.js.length capJ) ∧ W.cell? ⟨w.heap.size, 2, none⟩ = some (.int .i64 h.slo) ∧ W.cell? ⟨w.heap.size, 3, none⟩ = some (.int .i64 h.shi) ∧ W.cell? ⟨w.heap.size, 4, none⟩ = some (.int .i64 h.winch) ∧ W.cell? ⟨W1.heap.size, 2, none⟩ = some (.int .u32 sand) ∧ W.cell? ⟨W1.heap.size, 3, none⟩ = some (.int .u8 blk)) (first | exact ⟨(HKB.out _ HBD6.out).1, (HKB.out _ HBD6.out).2.1, (HKB.out _ HBD6.out).2.2.1, (HKB.out _ HBD6.out).2.2.2.1, (HKB.out _ HBD6.out).2.2.2.2, (HKP.out _ HBD6.out).2.2.1, (HKP.out _ HBD6.out).2.2.2⟩ | exact ⟨(HKB.out _ HB76.out).1, (HKB.out _ HB76.out).2.1, (HKB.out _ HB76.out).2.2.1, (HKB.out _ HB76.out).2.2.2.1, (HKB.out _ HB76.out).2.2.2.2, (HKP.out _ HB76.out).2.2.1, (HKP.out _ HB76.out).2.2.2⟩ | exact ⟨(HKB.out _ HB86.out).1, (HKB.out _ HB86.out).2.1, (HKB.out _ HB86.out).2.2.1, (HKB.out _ HB86.out).2.2.2.1, (HKB.out _ HB86.out).2.2.2.2, (HKP.out _ HB86.out).2.2.1, (HKP.out _ HB86.out).2.2.2⟩) (((first | (go_at_call 42; ((with_reducible refine (HHC.out _ HBD.out).mono ?_); rintro e w7 ⟨hb7, s, rfl, hs0, hs2, hsh⟩; have HB7 := Lib.hid (belowT HBD.out hb7); have HB76 := Lib.hid (belowT HB6.out HB7.out); have HSH := Lib.hid hsh; have HS2 := Lib.hid hs2; clear hb7 hsh hs2)) | (go_at_call 43; ((with_reducible refine (HAC.out _).mono ?_); rintro e w8 ⟨rfl, hb8⟩; have HB8 := Lib.hid (belowT HB7.out hb8); have HB86 := Lib.hid (belowT HB6.out HB8.out); clear hb8)))))
    have hbe : blockE h.ps.length h.js (s : Int) = 0 := blockE_ok hs0 HS2.out HSH.out
    have hen : enterE h l' (s : Int) = 0 := by unfold enterE; rw [if_pos (openE_zero HPT.out HFT.out)]; exact hbe
    have hpc := pull_any h A J w8.heap.size cap capJ A5 l' c5 (s : Int) w8 ((HH.out.below HB86.out hBz).more (Nat.le_trans hBz HB86.out.size)) ((HR6'.out.below HB8.out hz6).more (Nat.le_trans hz6 HB8.out.size)) HC5.out (Nat.le_refl _)
    have HPC := Lib.hid hpc
    have HEN := Lib.hid hen
    clear hbe hen hpc
    obtain ⟨p0, p1, p2, p3, p4⟩ := HKB.out _ HB86.out
    go_wp2_with fail
    refine HPC.out.mono ?_
    rintro e w9 ⟨hb9, hcase⟩
    rcases hcase with ⟨hne, _⟩ | ⟨_, _, _, _, N2, hN2, rfl⟩
    · exact absurd HEN.out hne
    have HB9 := Lib.hid (belowT HB8.out hb9)
    have hls := leastV_is HPT.out hN2 HFT.out HS2.out
    have hms := mostV_is HPT.out hN2 HFT.out HS2.out
    have hlb := leastV_bd HPT.out hN2 HFT.out HS2.out
    have hmb := mostV_bd HPT.out hN2 HFT.out HS2.out
    have hpi := pull_in HK.out hlb.1 (hls.1 v HTT.out) (hms.1 v HTT.out) HAB.out.1 HAB.out.2
    have hpv := pullV_bd HK.out hlb.1 hmb.1 hmb.2
    have hwc : ∀ V, Below w6.heap.size w6 V → Calls Try.prog 44 #[.slice (some ⟨gt, 0, none⟩) h.ps.length ct, .int .i64 s] V fun e w' => e = .returned (iv (sumS v s)) ∧ V = w' := fun V hb => by
      rw [← sumTo_sumS hn8 HS2.out]
      exact weight_any _ v h.ps.length _ ct s V hn8 (lt256 hn8 HS2.out) (row_rd (own_below HO6.out hb)) (box_wt HK.out.ps HBX.out)
    have hsb := sumS_bd hn8 HS2.out (box_wt HK.out.ps HBX.out)
    have hTb : 0 ≤ T ∧ T ≤ 2000 := by have := HK.out.s1; have := HK.out.s3; have := HAB.out; omega
    rw [Int.toNat_natCast]
    obtain ⟨Lo, hLo⟩ : ∃ x, (pullV h (leastV h N2 s) (mostV h N2 s)).1 = x := ⟨_, rfl⟩
    obtain ⟨Hi, hHi⟩ : ∃ x, (pullV h (leastV h N2 s) (mostV h N2 s)).2 = x := ⟨_, rfl⟩
    rw [hLo, hHi] at hpi hpv ⊢
    obtain ⟨S, hS⟩ : ∃ x, sumS v s = x := ⟨_, rfl⟩
    rw [hS] at hwc hsb hpi
    have hX : 0 ≤ S * T ∧ S * T ≤ 1600000000 := ⟨Int.mul_nonneg hsb.1 hTb.1, by
      have := Int.mul_le_mul hsb.2 hTb.2 hTb.1 (by omega)
      omega⟩
    obtain ⟨X, hXe⟩ : ∃ x, S * T = x := ⟨_, rfl⟩
    rw [hXe] at hX hpi
    have hwx : IntKind.i64.wrap (S * T) = X := by rw [hXe, IntKind.wrap_i64]; omega
    obtain ⟨hX0, hX1⟩ := hX
    obtain ⟨hpi0, hpi1⟩ := hpi
    obtain ⟨hpv0, hpv1⟩ := hpv
    have hwl : IntKind.i64.wrap (1000 * Lo) = 1000 * Lo := by rw [IntKind.wrap_i64]; omega
    have hwh : IntKind.i64.wrap (1000 * Hi) = 1000 * Hi := by rw [IntKind.wrap_i64]; omega
    have HWC := Lib.hid hwc
    obtain ⟨W9, hW9⟩ : ∃ W9, w9.alloc (.cells #[iv Lo, iv Hi] 25) = W9 := ⟨_, rfl⟩
    have hb99 : Below w9.heap.size w9 W9 := by rw [← hW9]; exact belowA (belowR _) _
    have r0 : W9.cell? ⟨w9.heap.size, 0, none⟩ = some (iv Lo) := by rw [← hW9]; clear hW9; go_simp
    have r1 : W9.cell? ⟨w9.heap.size, 1, none⟩ = some (iv Hi) := by rw [← hW9]; clear hW9; go_simp
    have HKR : Hid (∀ W, Below W9.heap.size W9 W → W.cell? ⟨w9.heap.size, 0, none⟩ = some (iv Lo) ∧ W.cell? ⟨w9.heap.size, 1, none⟩ = some (iv Hi)) := Lib.hid fun W hb => ⟨keepC hb r0, keepC hb r1⟩
    have HB99 := Lib.hid (belowT HB9.out hb99)
    have hlr : (rowW v h.ps.length).length = h.ps.length := rowW_len _ _
    have hwr := row_rd (own_below HO6.out HB99.out)
    have HWR := Lib.hid hwr
    have HSRR := Lib.hid (HSR.out.below HB99.out (Nat.le_refl _))
    have hz99 : w6.heap.size ≤ W9.heap.size := HB99.out.size
    clear hls hms hlb hmb hwc hsb hTb hLo hHi hS hXe hb9 hb99 hwr hlr p0 p1 p2 p3 p4
    go_wp2_with fail
    clear hW9 r0 r1
    obtain ⟨wq, hwq⟩ : ∃ wq : World, wq = W9 := ⟨_, rfl⟩
    have HBQ : Hid (Below W9.heap.size W9 wq) := Lib.hid (by rw [hwq]; exact belowR _)
    rw [← hwq]
    clear hwq
    go_loopw [17] (fun vi wr => ∃ k : Nat, k ≤ h.ps.length ∧ vi = .int .i64 k ∧ Hid (Below W9.heap.size W9 wr)) (fun vi _ => h.ps.length - (intOf vi).toNat)
    case atStart => exact ⟨0, Nat.zero_le _, rfl, HBQ⟩
    case round =>
      obtain ⟨k, hk, rfl, HBR⟩ := hrel
      by_cases hlt : k < h.ps.length
      · obtain ⟨hs1, hs2, hs3⟩ := HSA.out k hlt
        obtain ⟨b8, o8, rfl, _, d0, d1⟩ := spAt (HSRR.out.below HBR.out hz99) hs1
        obtain ⟨b9, o9, he9, _, hc9⟩ := (HWR.out.below HBR.out (Nat.le_refl _)) k (v k) (rowW_at v hlt)
        injection he9 with he9
        injection he9 with he91 he92
        subst he91 he92
        rw [Nat.zero_add] at hc9
        simp only at d0 d1
        obtain ⟨x, hx⟩ : ∃ x, v k = x := ⟨_, rfl⟩
        obtain ⟨lo, hlo⟩ : ∃ x, leastV h N (2 ^ k) = x := ⟨_, rfl⟩
        obtain ⟨hi, hhi⟩ : ∃ x, mostV h N (2 ^ k) = x := ⟨_, rfl⟩
        rw [hx] at hs2 hs3 hc9
        rw [hlo] at hs2 d0
        rw [hhi] at hs3 d1
        have hk0 : (0 : Int) ≤ (k : Int) := by omega
        have hkz : (k : Int) < (h.ps.length : Int) := by omega
        have hd1 : decide (x < lo) = false := by simpa using hs2
        have hd2 : decide (hi < x) = false := by simpa using hs3
        clear hs1 hx hlo hhi
        go_wp2_with fail
        go_quiet (fail)
        go_wp2_with fail
        go_roundw
        case rel => exact ⟨k + 1, by omega, by go_num, Lib.hid (belowN HBR.out _)⟩
        case measure => simp [intOf]; omega
      · obtain rfl : k = h.ps.length := by omega
        obtain ⟨r0, r1⟩ := HKR.out _ HBR.out
        have HBR6 := Lib.hid (belowT HB99.out HBR.out)
        have hdl : decide (1000 * Lo ≤ X) = true := decide_eq_true hpi0
        have hdh : decide (X ≤ 1000 * Hi) = true := decide_eq_true hpi1
        go_wp2_with (first | (go_at_call 44; (with_reducible refine (HWC.out _ HBR6.out).mono ?_); rintro e w10 ⟨rfl, rfl⟩) | (go_at_call 24; (with_reducible refine (HAW.out _).mono ?_); rintro e w11 ⟨rfl, hb11⟩; have HB11 := Lib.hid (belowT HBR6.out hb11); clear hb11))
        go_ret
        exact ⟨rfl, belowT HB0.out (belowT HB6.out HB11.out)⟩
end Go.Proofs.Ytojgdallodmanaa

namespace Go.Proofs.Ytojgdallodmanaa
open Go.RowKit

section
variable {h : Hul} {l : List Wgh} {N : List Nd}
theorem mostV_ref (hp : openPre h l = 0) (hN : IsTree h l N) (hf : Feas h l) {s : Nat} (hs : s < 2 ^ h.ps.length) : mostV h N s = mostRef h l s := by
  obtain ⟨a, b, c⟩ := lwOk hp
  exact (mostV_is hp hN hf hs).uniq (a.most_is b c hf hs).2
theorem leastV_ref (hp : openPre h l = 0) (hN : IsTree h l N) (hf : Feas h l) {s : Nat} (hs : s < 2 ^ h.ps.length) : leastV h N s = leastRef h l s := by
  obtain ⟨a, b, c⟩ := lwOk hp
  exact (leastV_is hp hN hf hs).uniq (a.leastRef_is b c hf hs)
theorem spans_ref (hp : openPre h l = 0) (hN : IsTree h l N) (hf : Feas h l) : spansV h N h.ps.length = spansRef h l h.ps.length := by
  unfold spansV spansRef
  apply List.map_congr_left
  intro i hi
  have hil : i < h.ps.length := by simpa using hi
  have hp2 : 2 ^ i < 2 ^ h.ps.length := Nat.pow_lt_pow_right (by decide) hil
  rw [mostV_ref hp hN hf hp2, leastV_ref hp hN hf hp2]
end
theorem row_spans {W : World} {base n cap : Nat} {A : Option Addr} {L : List (Int × Int)} (hl : L.length = n) (h : W.ownsRow base 25 2 (.slice A n cap) n (L.flatMap encSp)) : RdN 2 encSp W W.heap.size A L := by
  subst hl
  obtain ⟨A9, c9, hv9, hR9, _⟩ := own_rdN encSp_len h
  injection hv9 with h2
  rw [h2]
  exact hR9

set_option maxRecDepth 100000 in
set_option maxHeartbeats 16000000 in
theorem weightsLaw_any (h : Hul) (A J : Option Addr) (cap capJ : Nat) (AL : Option Addr) (l : List Wgh) (capL : Nat) (set : Int) (B : Nat) (w : World)
    (hH : HulRd w B h A cap J capJ) (hL : RdN 3 encWgh w B AL l) (hlc : l.length ≤ capL) (hcm : capL ≤ maxLen) (hB : B ≤ w.heap.size) :
    Calls Try.prog 3 #[hv h A cap J capJ, .slice AL l.length capL, .int .i64 set] w fun e w' => e = .returned (.bool true) ∧ Below w.heap.size w w' := by
  obtain ⟨W1, hW1, hb0, hzz, p0, p1, p2, p3, p4⟩ := hulBox w h A cap J capJ
  have HKB : Hid (∀ W, Below W1.heap.size W1 W → W.cell? ⟨w.heap.size, 0, none⟩ = some (.slice A h.ps.length cap) ∧ W.cell? ⟨w.heap.size, 1, none⟩ = some (.slice J h.js.length capJ) ∧ W.cell? ⟨w.heap.size, 2, none⟩ = some (.int .i64 h.slo) ∧ W.cell? ⟨w.heap.size, 3, none⟩ = some (.int .i64 h.shi) ∧ W.cell? ⟨w.heap.size, 4, none⟩ = some (.int .i64 h.winch)) := Lib.hid fun W hb => ⟨keepC hb p0, keepC hb p1, keepC hb p2, keepC hb p3, keepC hb p4⟩
  have hBz : B ≤ W1.heap.size := Nat.le_trans hB hb0.size
  have HH := Lib.hid (hH.below hb0 hB)
  have HL := Lib.hid (hL.below hb0 hB)
  have HB0 := Lib.hid hb0
  have hlm : l.length ≤ maxLen := Nat.le_trans hlc hcm
  have HLC := Lib.hid hlc
  have HLM := Lib.hid hlm
  have HAW := Lib.hid awake_any
  have hcc : ∀ V, Below W1.heap.size W1 V → Calls Try.prog 17 #[hv h A cap J capJ] V fun e w' => e = .returned (ret3 (checkE h)) ∧ Below V.heap.size V w' := fun V hb => check_any h A J B cap capJ V (HH.out.below hb hBz) (Nat.le_trans hBz hb.size)
  have hrc : ∀ V, Below W1.heap.size W1 V → Calls Try.prog 18 #[hv h A cap J capJ] V fun e w' => e = .returned (ret3 (checkE h)) ∧ Below V.heap.size V w' := fun V hb => refCheck_any h A J B cap capJ V (HH.out.below hb hBz) (Nat.le_trans hBz hb.size)
  obtain ⟨c1, c2, c3, hc⟩ : ∃ a b c, checkE h = (a, b, c) := ⟨_, _, _, rfl⟩
  rw [hc] at hcc hrc
  unfold ret3 at hcc hrc
  simp only at hcc hrc
  have HCC := Lib.hid hcc
  have HRC := Lib.hid hrc
  have hwt : ∀ V, Below W1.heap.size W1 V → Calls Try.prog 19 #[hv h A cap J capJ, .slice AL l.length capL] V (WeightsPost h l V) := fun V hb => weights_any h A J B cap capJ AL l capL V (HH.out.below hb hBz) (HL.out.below hb hBz) hlc (Nat.le_trans hBz hb.size)
  have hrw : ∀ V, Below W1.heap.size W1 V → Calls Try.prog 20 #[hv h A cap J capJ, .slice AL l.length capL] V (RefWeightsPost h l V) := fun V hb => refWeights_any h A J B cap capJ AL l capL V (HH.out.below hb hBz) (HL.out.below hb hBz) hlm (Nat.le_trans hBz hb.size)
  have hpl : ∀ V, Below W1.heap.size W1 V → Calls Try.prog 22 #[hv h A cap J capJ, .slice AL l.length capL, .int .i64 set] V (PullPost h l set V) := fun V hb => pull_any h A J B cap capJ AL l capL set V (HH.out.below hb hBz) (HL.out.below hb hBz) hlc (Nat.le_trans hBz hb.size)
  have hrp : ∀ V, Below W1.heap.size W1 V → Calls Try.prog 23 #[hv h A cap J capJ, .slice AL l.length capL, .int .i64 set] V (RefPullPost h l set V) := fun V hb => refPull_any h A J B cap capJ AL l capL set V (HH.out.below hb hBz) (HL.out.below hb hBz) hlm (Nat.le_trans hBz hb.size)
  have HWT := Lib.hid hwt
  have HRW := Lib.hid hrw
  have HPL := Lib.hid hpl
  have HRP := Lib.hid hrp
  clear hcc hrc hwt hrw hpl hrp hb0 hH hL hlc hcm hlm hzz hc
  -- whatever is answered: both answer the same
  have hw2 : ∀ (V : World) (e : Ending) (w2 : World), WeightsPost h l V e w2 → ∃ v, e = .returned (.tuple #[v, iv (openE h l)]) ∧ Below V.heap.size V w2 ∧ ∀ W e' w3, Below w2.heap.size w2 W → RefWeightsPost h l W e' w3 → ∃ v', e' = .returned (.tuple #[v', iv (openE h l)]) ∧ Below W.heap.size W w3 ∧ Calls Try.prog 21 #[v, v'] w3 fun e w' => e = .returned (.bool true) ∧ Below w3.heap.size w3 w' := by
    intro V e w2 ⟨hb2, hc2⟩
    rcases hc2 with ⟨hne, rfl⟩ | ⟨h0, hp, hf, N, A2, cap2, hN, rfl, hown2⟩
    · refine ⟨_, rfl, hb2, fun W e' w3 hbW ⟨hb3, hc3⟩ => ?_⟩
      rcases hc3 with ⟨_, rfl⟩ | ⟨h0, _⟩
      · refine ⟨_, rfl, hb3, ?_⟩
        exact spans_any none none [] [] w3.heap.size 0 0 w3 RdN.nil RdN.nil (by decide) (by decide) (Nat.le_refl _)
      · exact absurd h0 hne
    · refine ⟨_, by rw [h0], hb2, fun W e' w3 hbW ⟨hb3, hc3⟩ => ?_⟩
      rcases hc3 with ⟨hne, _⟩ | ⟨_, _, _, A3, cap3, rfl, hown3⟩
      · exact absurd h0 hne
      · refine ⟨_, by rw [h0], hb3, ?_⟩
        have hl1 := spansV_len h N h.ps.length
        have hl2 := spansRef_len h l h.ps.length
        have hk := hulOk (openPre_zero hp).1
        have hn8 := hk.n8
        have hR2 := row_spans hl1 (own_below hown2 (belowT hbW hb3))
        have hR3 := row_spans hl2 hown3
        have hs := spans_any A2 A3 _ _ w3.heap.size cap2 cap3 w3 hR2 hR3 (by omega) (by omega) (Nat.le_refl _)
        rw [hl1, hl2, spans_ref hp hN hf] at hs
        simpa using hs
  obtain ⟨pa, pb, hp2, hp3⟩ : ∃ a b : Int, (∀ (V : World) (e : Ending) (w2 : World), PullPost h l set V e w2 → e = .returned (.tuple #[.agg #[iv a, iv b], iv (enterE h l set)]) ∧ Below V.heap.size V w2) ∧ (∀ (V : World) (e : Ending) (w2 : World), RefPullPost h l set V e w2 → e = .returned (.tuple #[.agg #[iv a, iv b], iv (enterE h l set)]) ∧ Below V.heap.size V w2) := by
    by_cases h0 : enterE h l set = 0
    · obtain ⟨hp, hf, hbe⟩ := enterE_zero h0
      have hk := hulOk (openPre_zero hp).1
      obtain ⟨s, _, _, hs2, rfl, _⟩ := blockE_zero hk.n8 hbe
      refine ⟨(pullV h (leastRef h l s) (mostRef h l s)).1, (pullV h (leastRef h l s) (mostRef h l s)).2, fun V e w2 ⟨hb2, hc2⟩ => ?_, fun V e w2 ⟨hb2, hc2⟩ => ?_⟩
      · rcases hc2 with ⟨hne, _⟩ | ⟨_, _, _, _, N, hN, rfl⟩
        · exact absurd h0 hne
        · rw [Int.toNat_natCast, mostV_ref hp hN hf hs2, leastV_ref hp hN hf hs2, h0]
          exact ⟨rfl, hb2⟩
      · rcases hc2 with ⟨hne, _⟩ | ⟨_, _, _, _, rfl⟩
        · exact absurd h0 hne
        · rw [Int.toNat_natCast, h0]
          exact ⟨rfl, hb2⟩
    · refine ⟨0, 0, fun V e w2 ⟨hb2, hc2⟩ => ?_, fun V e w2 ⟨hb2, hc2⟩ => ?_⟩
      · rcases hc2 with ⟨_, rfl⟩ | ⟨h1, _⟩
        · exact ⟨rfl, hb2⟩
        · exact absurd h1 h0
      · rcases hc2 with ⟨_, rfl⟩ | ⟨h1, _⟩
        · exact ⟨rfl, hb2⟩
        · exact absurd h1 h0
  have HW2 := Lib.hid hw2
  have HP2 := Lib.hid hp2
  have HP3 := Lib.hid hp3
  obtain ⟨OE, hOE⟩ : ∃ e, openE h l = e := ⟨_, rfl⟩
  obtain ⟨EE, hEE⟩ : ∃ e, enterE h l set = e := ⟨_, rfl⟩
  rw [hOE] at HW2
  rw [hEE] at HP2 HP3
  clear hw2 hp2 hp3 hOE hEE
  go_enter Try.func3, Try.ntmps3
  go_wp2_with fail
  refine (HCC.out _ (belowR _)).mono ?_
  rintro e w2 ⟨rfl, hb2⟩
  have HB2 := Lib.hid hb2
  clear hb2 hW1 p0 p1 p2 p3 p4
  obtain ⟨p0, p1, p2, p3, p4⟩ := HKB.out _ HB2.out
  go_wp2_with fail
  refine (HRC.out _ HB2.out).mono ?_
  rintro e w3 ⟨rfl, hb3⟩
  have HB3 := Lib.hid (belowT HB2.out hb3)
  clear hb3 p0 p1 p2 p3 p4
  obtain ⟨p0, p1, p2, p3, p4⟩ := HKB.out _ HB3.out
  go_wp2_with fail
  refine (HWT.out _ HB3.out).mono ?_
  intro e w4 hpost
  obtain ⟨v4, rfl, hb4, hnext⟩ := HW2.out _ _ _ hpost
  have HB4 := Lib.hid (belowT HB3.out hb4)
  have HNX := Lib.hid hnext
  clear hb4 hnext hpost p0 p1 p2 p3 p4
  obtain ⟨p0, p1, p2, p3, p4⟩ := HKB.out _ HB4.out
  go_wp2_with fail
  refine (HRW.out _ HB4.out).mono ?_
  intro e w5 hpost
  obtain ⟨v5, rfl, hb5, hsp⟩ := HNX.out w4 _ _ (belowR _) hpost
  have HB5 := Lib.hid (belowT HB4.out hb5)
  have HSP := Lib.hid hsp
  clear hb5 hpost hsp p0 p1 p2 p3 p4
  go_wp2_with fail
  refine HSP.out.mono ?_
  rintro e w6 ⟨rfl, hb6⟩
  have HB6 := Lib.hid (belowT HB5.out hb6)
  clear hb6
  obtain ⟨p0, p1, p2, p3, p4⟩ := HKB.out _ HB6.out
  go_wp2_with fail
  refine (HPL.out _ HB6.out).mono ?_
  intro e w7 hpost7
  obtain ⟨rfl, hb7⟩ := HP2.out _ _ _ hpost7
  have HB7 := Lib.hid (belowT HB6.out hb7)
  clear hb7 hpost7 p0 p1 p2 p3 p4
  obtain ⟨W8, hW8⟩ : ∃ W, w7.alloc (.cells #[iv pa, iv pb] 25) = W := ⟨_, rfl⟩
  have hb8 : Below w7.heap.size w7 W8 := by rw [← hW8]; exact belowA (belowR _) _
  have r0 : W8.cell? ⟨w7.heap.size, 0, none⟩ = some (iv pa) := by rw [← hW8]; clear hW8; go_simp
  have r1 : W8.cell? ⟨w7.heap.size, 1, none⟩ = some (iv pb) := by rw [← hW8]; clear hW8; go_simp
  have HB8 := Lib.hid (belowT HB7.out hb8)
  obtain ⟨p0, p1, p2, p3, p4⟩ := HKB.out _ HB7.out
  obtain ⟨q0, q1, q2, q3, q4⟩ := HKB.out _ HB8.out
  clear hb8
  go_upto_region 10 with fail
  go_wp2_with fail
  refine (HRP.out _ HB8.out).mono ?_
  intro e w9 hpost9
  obtain ⟨rfl, hb9⟩ := HP3.out _ _ _ hpost9
  have HB9 := Lib.hid (belowT HB8.out hb9)
  have r0 := keepC hb9 r0
  have r1 := keepC hb9 r1
  have hz9 := lt_of_cell r0
  clear hb9 hpost9 p0 p1 p2 p3 p4 q0 q1 q2 q3 q4 hW8
  go_wp2_with (go_at_call 24; (with_reducible refine (HAW.out _).mono ?_); rintro e w11 ⟨rfl, hb11⟩; have HB11 := Lib.hid hb11; clear hb11)
  go_ret
  exact ⟨rfl, belowT HB0.out (belowT (belowA HB9.out _) HB11.out)⟩
end Go.Proofs.Ytojgdallodmanaa
