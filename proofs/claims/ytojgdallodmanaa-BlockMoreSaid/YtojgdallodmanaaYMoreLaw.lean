/- BlockMore: the walk (printed by mkMore.py). -/
import Derived.Deep.DeepCutAuto
import Derived.Test.YtojgdallodmanaaZ8aa057
import Derived.Test.YtojgdallodmanaaZ654d27
import Derived.Test.YtojgdallodmanaaYK18
import Derived.Test.YtojgdallodmanaaYOpen3
namespace Go.Proofs.Ytojgdallodmanaa
open Go.RowKit

theorem encWgh_one1 : ∀ (x : Wgh), ∀ u ∈ encWgh x, u.oneCell' = true := fun x u hu => by
  simp only [encWgh, List.mem_cons, List.not_mem_nil, or_false] at hu
  rcases hu with rfl | rfl | rfl <;> rfl

set_option maxRecDepth 100000 in
set_option maxHeartbeats 8000000 in
theorem moreLaw_any (h : Hul) (A J : Option Addr) (cap capJ : Nat) (AL : Option Addr) (l : List Wgh) (capL : Nat) (x : Wgh) (blk B : Nat) (w : World)
    (hH : HulRd w B h A cap J capJ) (hL : RdN 3 encWgh w B AL l) (hlc : l.length ≤ capL) (hcm : capL ≤ maxLen) (hl0 : AL = none → capL = 0) (hm1 : l.length + 1 ≤ maxLen) (hmb : (l.length + 1) * 24 ≤ 140737488355328) (hblk : blk < 256) (hB : B ≤ w.heap.size) :
    Calls Try.prog 13 #[hv h A cap J capJ, .slice AL l.length capL, .agg #[iv x.set, iv x.lo, iv x.hi, .int .u8 blk]] w fun e w' => e = .returned (.bool true) ∧ Below w.heap.size w w' := by
  obtain ⟨W1, hW1, hb1, hzz, p0, p1, p2, p3, p4⟩ := hulBox w h A cap J capJ
  obtain ⟨W2, hW2⟩ : ∃ W2, W1.alloc (.cells #[iv x.set, iv x.lo, iv x.hi, .int .u8 blk] 84) = W2 := ⟨_, rfl⟩
  have hb2 : Below W1.heap.size W1 W2 := by rw [← hW2]; exact belowA (belowR _) _
  have hq : Blk W2 W1.heap.size 84 #[iv x.set, iv x.lo, iv x.hi, .int .u8 blk] := by rw [← hW2]; exact Blk.new W1 84 _
  have q0 : W2.cell? ⟨W1.heap.size, 0, none⟩ = some (iv x.set) := hq.cell 0
  have q1 : W2.cell? ⟨W1.heap.size, 1, none⟩ = some (iv x.lo) := hq.cell 1
  have q2 : W2.cell? ⟨W1.heap.size, 2, none⟩ = some (iv x.hi) := hq.cell 2
  have q3 : W2.cell? ⟨W1.heap.size, 3, none⟩ = some (.int .u8 blk) := hq.cell 3
  have hb0 := belowT hb1 hb2
  have HKB : Hid (∀ W, Below W2.heap.size W2 W → W.cell? ⟨w.heap.size, 0, none⟩ = some (.slice A h.ps.length cap) ∧ W.cell? ⟨w.heap.size, 1, none⟩ = some (.slice J h.js.length capJ) ∧ W.cell? ⟨w.heap.size, 2, none⟩ = some (.int .i64 h.slo) ∧ W.cell? ⟨w.heap.size, 3, none⟩ = some (.int .i64 h.shi) ∧ W.cell? ⟨w.heap.size, 4, none⟩ = some (.int .i64 h.winch)) := Lib.hid fun W hb => ⟨keepC hb (keepC hb2 p0), keepC hb (keepC hb2 p1), keepC hb (keepC hb2 p2), keepC hb (keepC hb2 p3), keepC hb (keepC hb2 p4)⟩
  have HKP : Hid (∀ W, Below W2.heap.size W2 W → W.cell? ⟨W1.heap.size, 0, none⟩ = some (iv x.set) ∧ W.cell? ⟨W1.heap.size, 1, none⟩ = some (iv x.lo) ∧ W.cell? ⟨W1.heap.size, 2, none⟩ = some (iv x.hi) ∧ W.cell? ⟨W1.heap.size, 3, none⟩ = some (.int .u8 blk)) := Lib.hid fun W hb => ⟨keepC hb q0, keepC hb q1, keepC hb q2, keepC hb q3⟩
  have hBz : B ≤ W2.heap.size := Nat.le_trans hB hb0.size
  have HH := Lib.hid (hH.below hb0 hB)
  have HL := Lib.hid (hL.below hb0 hB)
  have HB0 := Lib.hid hb0
  have HLC := Lib.hid hlc
  have HAW := Lib.hid awake_any
  have HSR : Hid (Srcs W2 3 (.slice AL l.length capL) l.length (l.flatMap encWgh)) := Lib.hid (srcs_rdN encWgh_len encWgh_one1 HL.out hBz hlc hcm hl0)
  have hws : w.heap.size < W2.heap.size := Nat.lt_of_lt_of_le (lt_of_cell p0) hb2.size
  have hws1 : W1.heap.size < W2.heap.size := hq.lt
  have HM1 := Lib.hid hm1
  have HMB := Lib.hid hmb
  clear hb0 hb1 hH hL hlc hcm hzz hq hl0 hm1 hmb
  go_enter Try.func13, Try.ntmps13
  go_upto_region 1 with fail
  refine reg13_1 (x := x) HM1.out HMB.out HSR.out (fun W hb => ⟨(HKP.out W hb).1, (HKP.out W hb).2.1, (HKP.out W hb).2.2.1⟩) ?_
  intro u22 u23 u24 u25 u26 u27 u28 v' W3 hL'
  have HB3 := Lib.hid hL'.1
  have hown : W3.ownsRow W2.heap.size 82 3 v' (l.length + 1) ((l ++ [x]).flatMap encWgh) := by
    have := live_own hL'.2 (i := 0) rfl
    rw [List.flatMap_append]
    exact this
  obtain ⟨m, hm⟩ : ∃ m, l ++ [x] = m := ⟨_, rfl⟩
  rw [hm] at hown
  have hml : m.length = l.length + 1 := by rw [← hm, List.length_append]; rfl
  obtain ⟨A5, c5, hv5, hR5, hc5, hc6⟩ : ∃ A5 c5, v' = .slice A5 m.length c5 ∧ RdN 3 encWgh W3 W3.heap.size A5 m ∧ m.length ≤ c5 ∧ c5 ≤ maxLen := by
    have h2 := hown
    rw [← hml] at h2
    obtain ⟨A5, c5, e5, a5, _, b5, d5⟩ := own_rdN encWgh_len h2
    exact ⟨A5, c5, e5, a5, b5, d5⟩
  subst hv5
  have hsub : ∀ y ∈ l, y ∈ m := fun y hy => by rw [← hm]; exact List.mem_append_left _ hy
  have HSUB := Lib.hid hsub
  have HML := Lib.hid hml
  have hBz3 : B ≤ W3.heap.size := Nat.le_trans hBz HB3.out.size
  have HH3 := Lib.hid ((HH.out.below HB3.out hBz).more hBz3)
  have HL3 := Lib.hid ((HL.out.below HB3.out hBz).more hBz3)
  have HR3 := Lib.hid hR5
  have HC5 := Lib.hid hc5
  have hwc := weighings_any h A J W3.heap.size cap capJ A5 m c5 W3 HH3.out HR3.out (Nat.le_trans hc5 hc6) (Nat.le_refl _)
  have HKB3 : Hid (∀ W, Below W3.heap.size W3 W → W.cell? ⟨w.heap.size, 0, none⟩ = some (.slice A h.ps.length cap) ∧ W.cell? ⟨w.heap.size, 1, none⟩ = some (.slice J h.js.length capJ) ∧ W.cell? ⟨w.heap.size, 2, none⟩ = some (.int .i64 h.slo) ∧ W.cell? ⟨w.heap.size, 3, none⟩ = some (.int .i64 h.shi) ∧ W.cell? ⟨w.heap.size, 4, none⟩ = some (.int .i64 h.winch)) := Lib.hid fun W hb => HKB.out W (belowT HB3.out hb)
  have HKP3 : Hid (∀ W, Below W3.heap.size W3 W → W.cell? ⟨W1.heap.size, 0, none⟩ = some (iv x.set) ∧ W.cell? ⟨W1.heap.size, 1, none⟩ = some (iv x.lo) ∧ W.cell? ⟨W1.heap.size, 2, none⟩ = some (iv x.hi) ∧ W.cell? ⟨W1.heap.size, 3, none⟩ = some (.int .u8 blk)) := Lib.hid fun W hb => HKP.out W (belowT HB3.out hb)
  have hws3 : w.heap.size < W3.heap.size := Nat.lt_of_lt_of_le hws HB3.out.size
  have hws13 : W1.heap.size < W3.heap.size := Nat.lt_of_lt_of_le hws1 HB3.out.size
  have HW := Lib.hid (belowT HB0.out HB3.out)
  clear hown hR5 hc5 hc6 hm hml hsub hL' hW1 hW2 hb2 p0 p1 p2 p3 p4 q0 q1 q2 q3 HKB HKP HL HH HSR
  obtain ⟨p0, p1, p2, p3, p4⟩ := HKB3.out _ (belowR W3)
  by_cases hop : openE h m = 0
  case neg =>
    obtain ⟨E, hE⟩ : ∃ E, openE h m = E := ⟨_, rfl⟩
    rw [hE] at hop hwc
    have HWC := Lib.hid hwc
    have hcb : (E != 0) = true := by simpa using hop
    clear hE hop hwc
    go_wp2_with fail
    refine HWC.out.mono ?_
    rintro e w1 ⟨rfl, hb3⟩
    have HB4 := Lib.hid hb3
    clear hb3 p0 p1 p2 p3 p4
    go_wp2_with fail
    refine (HAW.out _).mono ?_
    rintro e w5 ⟨rfl, hb5⟩
    have HB5 := Lib.hid (belowT HB4.out hb5)
    clear hb5
    go_wp2_with fail
    go_ret
    exact ⟨rfl, belowT HW.out HB5.out⟩
  rw [hop] at hwc
  have HWC := Lib.hid hwc
  obtain ⟨hq, hf⟩ := openE_zero_iff hop
  have hp : openPre h l = 0 := more_pre hq HSUB.out (by have := (openPre_iff.1 hq).2.1; have := HML.out; omega)
  have hfl : Feas h l := more_feas HSUB.out hf
  have hol : openE h l = 0 := openE_zero hp hfl
  have hr := pre_right hp
  have hn8 := hr.n8
  have hn1 := hr.n1
  have HPR := Lib.hid hp
  have HPM := Lib.hid hq
  have HFM := Lib.hid hf
  have HFL := Lib.hid hfl
  have HOL := Lib.hid hol
  have HOM := Lib.hid hop
  have HRR := Lib.hid hr
  have HK := Lib.hid (hulOk (openPre_zero hp).1)
  have hhc : ∀ V, Below W3.heap.size W3 V → Calls Try.prog 42 #[hv h A cap J capJ, .int .u8 blk] V fun e w' => Below V.heap.size V w' ∧ ∃ s : Nat, e = .returned (iv s) ∧ 0 < s ∧ s < 2 ^ h.ps.length ∧ hangsB h.js s = true := fun V hb => hung_any h A J W3.heap.size cap capJ blk V (HH3.out.below hb (Nat.le_refl _)) hn1 hn8 HK.out.js HK.out.j12 hblk hb.size
  have hw1 : ∀ V, Below W3.heap.size W3 V → Calls Try.prog 19 #[hv h A cap J capJ, .slice AL l.length capL] V fun e w' => Below V.heap.size V w' ∧ ∃ A c, e = .returned (.tuple #[.slice A (spansRef h l h.ps.length).length c, iv 0]) ∧ RdN 2 encSp w' w'.heap.size A (spansRef h l h.ps.length) := fun V hb => (weights_any h A J W3.heap.size cap capJ AL l capL V (HH3.out.below hb (Nat.le_refl _)) (HL3.out.below hb (Nat.le_refl _)) HLC.out hb.size).mono fun e w' hpost => weightsAns HPR.out HFL.out HPR.out (fun _ => Iff.rfl) hpost
  have hw2 : ∀ V, Below W3.heap.size W3 V → Calls Try.prog 19 #[hv h A cap J capJ, .slice A5 m.length c5] V fun e w' => Below V.heap.size V w' ∧ ∃ A c, e = .returned (.tuple #[.slice A (spansRef h m h.ps.length).length c, iv 0]) ∧ RdN 2 encSp w' w'.heap.size A (spansRef h m h.ps.length) := fun V hb => (weights_any h A J W3.heap.size cap capJ A5 m c5 V (HH3.out.below hb (Nat.le_refl _)) (HR3.out.below hb (Nat.le_refl _)) HC5.out hb.size).mono fun e w' hpost => weightsAns HPM.out HFM.out HPM.out (fun _ => Iff.rfl) hpost
  have hp1 : ∀ V (s : Nat), 0 < s → s < 2 ^ h.ps.length → hangsB h.js s = true → Below W3.heap.size W3 V → Calls Try.prog 22 #[hv h A cap J capJ, .slice AL l.length capL, iv (s : Int)] V fun e w' => Below V.heap.size V w' ∧ e = .returned (.tuple #[.agg #[iv (pullV h (leastRef h l s) (mostRef h l s)).1, iv (pullV h (leastRef h l s) (mostRef h l s)).2], iv 0]) := fun V s h0 h1 h2 hb => (pull_any h A J W3.heap.size cap capJ AL l capL (s : Int) V (HH3.out.below hb (Nat.le_refl _)) (HL3.out.below hb (Nat.le_refl _)) HLC.out hb.size).mono fun e w' hpost => pullAns HPR.out HFL.out h0 h1 h2 hpost
  have hp2 : ∀ V (s : Nat), 0 < s → s < 2 ^ h.ps.length → hangsB h.js s = true → Below W3.heap.size W3 V → Calls Try.prog 22 #[hv h A cap J capJ, .slice A5 m.length c5, iv (s : Int)] V fun e w' => Below V.heap.size V w' ∧ e = .returned (.tuple #[.agg #[iv (pullV h (leastRef h m s) (mostRef h m s)).1, iv (pullV h (leastRef h m s) (mostRef h m s)).2], iv 0]) := fun V s h0 h1 h2 hb => (pull_any h A J W3.heap.size cap capJ A5 m c5 (s : Int) V (HH3.out.below hb (Nat.le_refl _)) (HR3.out.below hb (Nat.le_refl _)) HC5.out hb.size).mono fun e w' hpost => pullAns HPM.out HFM.out h0 h1 h2 hpost
  have hf1 : ∀ V, Below W3.heap.size W3 V → Calls Try.prog 30 #[hv h A cap J capJ, .slice AL l.length capL] V fun e w' => Below V.heap.size V w' ∧ ∃ (q : List Nat) (E : Int) (A : Option Addr) (c : Nat), e = .returned (.tuple #[.slice A q.length c, iv E]) ∧ Rd1 nv w' w'.heap.size A q ∧ q.length ≤ 8 ∧ (∀ x ∈ q, x < 8) ∧ FewFact h l q E := fun V hb => (fewest_any h A J W3.heap.size cap capJ AL l capL V (HH3.out.below hb (Nat.le_refl _)) (HL3.out.below hb (Nat.le_refl _)) HLC.out hb.size).mono fun e w' hpost => fewFact HOL.out hpost
  have hf2 : ∀ V, Below W3.heap.size W3 V → Calls Try.prog 30 #[hv h A cap J capJ, .slice A5 m.length c5] V fun e w' => Below V.heap.size V w' ∧ ∃ (q : List Nat) (E : Int) (A : Option Addr) (c : Nat), e = .returned (.tuple #[.slice A q.length c, iv E]) ∧ Rd1 nv w' w'.heap.size A q ∧ q.length ≤ 8 ∧ (∀ x ∈ q, x < 8) ∧ FewFact h m q E := fun V hb => (fewest_any h A J W3.heap.size cap capJ A5 m c5 V (HH3.out.below hb (Nat.le_refl _)) (HR3.out.below hb (Nat.le_refl _)) HC5.out hb.size).mono fun e w' hpost => fewFact HOM.out hpost
  have HHC := Lib.hid hhc
  have HW1 := Lib.hid hw1
  have HW2 := Lib.hid hw2
  have HP1 := Lib.hid hp1
  have HP2 := Lib.hid hp2
  have HF1 := Lib.hid hf1
  have HF2 := Lib.hid hf2
  have hl1 : (spansRef h l h.ps.length).length = h.ps.length := spansRef_len h l h.ps.length
  have hl2 : (spansRef h m h.ps.length).length = h.ps.length := spansRef_len h m h.ps.length
  have HL1 := Lib.hid hl1
  have HL2 := Lib.hid hl2
  have HSA : Hid (∀ i, i < h.ps.length → ∃ a b c d : Int, (spansRef h l h.ps.length)[i]? = some (a, b) ∧ (spansRef h m h.ps.length)[i]? = some (c, d) ∧ a ≤ c ∧ d ≤ b) := Lib.hid fun i hi => by
    have hp2 : 2 ^ i < 2 ^ h.ps.length := Nat.pow_lt_pow_right (by decide) hi
    have := more_ends HPR.out HPM.out HSUB.out HFM.out hp2
    exact ⟨_, _, _, _, spansRef_at hi, spansRef_at hi, this.2.1, this.1⟩
  have HPU : Hid (∀ s : Nat, s < 2 ^ h.ps.length → (pullV h (leastRef h l s) (mostRef h l s)).1 ≤ (pullV h (leastRef h m s) (mostRef h m s)).1 ∧ (pullV h (leastRef h m s) (mostRef h m s)).2 ≤ (pullV h (leastRef h l s) (mostRef h l s)).2) := Lib.hid fun s hs => by
    obtain ⟨a, b, c, d, _, _⟩ := more_ends HPR.out HPM.out HSUB.out HFM.out hs
    exact more_pull HRR.out a b c d
  have HFF : Hid (∀ (q1 q2 : List Nat) (E1 E2 : Int), FewFact h l q1 E1 → FewFact h m q2 E2 → E1 = 0 → E2 = 0 ∧ manyTo q2 q2.length ≤ manyTo q1 q1.length) := Lib.hid fun q1 q2 E1 E2 a b => more_few HPR.out HPM.out HSUB.out HFM.out a b
  clear hwc hq hf hp hfl hol hr hop hhc hw1 hw2 hp1 hp2 hf1 hf2 hl1 hl2 HPM HFM HFL HOL HOM
  obtain ⟨S1, hS1⟩ : ∃ S, spansRef h l h.ps.length = S := ⟨_, rfl⟩
  obtain ⟨S2, hS2⟩ : ∃ S, spansRef h m h.ps.length = S := ⟨_, rfl⟩
  rw [hS1] at HW1 HSA HL1
  rw [hS2] at HW2 HSA HL2
  clear hS1 hS2
  go_wp2_with fail
  refine HWC.out.mono ?_
  rintro e w1 ⟨rfl, hb3⟩
  have HB4 := Lib.hid hb3
  clear hb3 p0 p1 p2 p3 p4 HWC
  obtain ⟨p0, p1, p2, p3, p4⟩ := HKB3.out _ HB4.out
  obtain ⟨q0, q1, q2, q3⟩ := HKP3.out _ HB4.out
  go_wp2_with fail
  refine (HHC.out _ HB4.out).mono ?_
  rintro e w2 ⟨hb, s, rfl, hs0, hs2, hsh⟩
  have HB5 := Lib.hid (belowT HB4.out hb)
  have HS0 := Lib.hid hs0
  have HS2 := Lib.hid hs2
  have HSH := Lib.hid hsh
  clear hb p0 p1 p2 p3 p4 q0 q1 q2 q3 HHC hs0 hs2 hsh HB4
  obtain ⟨p0, p1, p2, p3, p4⟩ := HKB3.out _ HB5.out
  go_wp2_with fail
  refine (HW1.out _ HB5.out).mono ?_
  rintro e w3 ⟨hb, A6, c6, rfl, hr6⟩
  have HB6 := Lib.hid (belowT HB5.out hb)
  have HR6 := Lib.hid hr6
  clear hb p0 p1 p2 p3 p4 hr6 HB5 HW1
  obtain ⟨p0, p1, p2, p3, p4⟩ := HKB3.out _ HB6.out
  go_wp2_with fail
  refine (HW2.out _ HB6.out).mono ?_
  rintro e w4 ⟨hb, A7, c7, rfl, hr7⟩
  have HB7 := Lib.hid (belowT HB6.out hb)
  have HR6 := Lib.hid ((HR6.out.below hb (Nat.le_refl _)).more hb.size)
  have HR7 := Lib.hid hr7
  clear hb p0 p1 p2 p3 p4 hr7 HB6 HW2
  obtain ⟨p0, p1, p2, p3, p4⟩ := HKB3.out _ HB7.out
  go_wp2_with fail
  refine (HP1.out _ s HS0.out HS2.out HSH.out HB7.out).mono ?_
  rintro e w5 ⟨hb, rfl⟩
  have hpu := HPU.out s HS2.out
  obtain ⟨a1, ha1⟩ : ∃ a, (pullV h (leastRef h l s) (mostRef h l s)).1 = a := ⟨_, rfl⟩
  obtain ⟨a2, ha2⟩ : ∃ a, (pullV h (leastRef h l s) (mostRef h l s)).2 = a := ⟨_, rfl⟩
  rw [ha1, ha2] at hpu ⊢
  have HPU2 := Lib.hid hpu
  have HB8 := Lib.hid (belowT HB7.out hb)
  obtain ⟨W4, hW4⟩ : ∃ W4, w5.alloc (.cells #[iv a1, iv a2] 25) = W4 := ⟨_, rfl⟩
  have hbb : Below w5.heap.size w5 W4 := by rw [← hW4]; exact belowA (belowR _) _
  have hk4 : Blk W4 w5.heap.size 25 #[iv a1, iv a2] := by rw [← hW4]; exact Blk.new w5 25 _
  have HK4 := Lib.hid hk4
  have HB9 := Lib.hid (belowT HB8.out hbb)
  have HBA := Lib.hid (belowT hb hbb)
  obtain ⟨gp, hgp⟩ : ∃ g, w5.heap.size = g := ⟨_, rfl⟩
  clear hpu ha1 ha2 hb p0 p1 p2 p3 p4 HP1 HPU hbb hk4
  rw [hgp] at HK4
  obtain ⟨p0, p1, p2, p3, p4⟩ := HKB3.out _ HB9.out
  go_wp2_with fail
  clear hW4 hgp HB8
  refine (HP2.out _ s HS0.out HS2.out HSH.out HB9.out).mono ?_
  rintro e w6 ⟨hb, rfl⟩
  obtain ⟨a3, ha3⟩ : ∃ a, (pullV h (leastRef h m s) (mostRef h m s)).1 = a := ⟨_, rfl⟩
  obtain ⟨a4, ha4⟩ : ∃ a, (pullV h (leastRef h m s) (mostRef h m s)).2 = a := ⟨_, rfl⟩
  have hpu := HPU2.out
  rw [ha3, ha4] at hpu ⊢
  obtain ⟨hd1, hd2⟩ := hpu
  have HD1 := Lib.hid hd1
  have HD2 := Lib.hid hd2
  have HB10 := Lib.hid (belowT HB9.out hb)
  obtain ⟨W5, hW5⟩ : ∃ W5, w6.alloc (.cells #[iv a3, iv a4] 25) = W5 := ⟨_, rfl⟩
  have hbb : Below w6.heap.size w6 W5 := by rw [← hW5]; exact belowA (belowR _) _
  have hk5 : Blk W5 w6.heap.size 25 #[iv a3, iv a4] := by rw [← hW5]; exact Blk.new w6 25 _
  have HK5 := Lib.hid hk5
  have HK4 := Lib.hid (HK4.out.same ((belowT hb hbb).block _ HK4.out.lt))
  have HB11 := Lib.hid (belowT HB10.out hbb)
  have HBA := Lib.hid (belowT HBA.out (belowT hb hbb))
  obtain ⟨gq, hgq⟩ : ∃ g, w6.heap.size = g := ⟨_, rfl⟩
  have HR6 := Lib.hid ((HR6.out.below HBA.out (Nat.le_refl _)).more HBA.out.size)
  have HR7 := Lib.hid ((HR7.out.below HBA.out (Nat.le_refl _)).more HBA.out.size)
  clear hd1 hd2 ha3 ha4 hb p0 p1 p2 p3 p4 HP2 HPU2 HB9 hbb hk5
  rw [hgq] at HK5
  obtain ⟨p0, p1, p2, p3, p4⟩ := HKB3.out _ HB11.out
  go_wp2_with fail
  clear hW5 hgq HB10 HBA
  refine (HF1.out _ HB11.out).mono ?_
  rintro e w7 ⟨hb, q1, E1, A8, c8, rfl, hrd1, hq81, hx81, hff1⟩
  have HB12 := Lib.hid (belowT HB11.out hb)
  have HK4 := Lib.hid (HK4.out.same (hb.block _ HK4.out.lt))
  have HK5 := Lib.hid (HK5.out.same (hb.block _ HK5.out.lt))
  have HR6 := Lib.hid ((HR6.out.below hb (Nat.le_refl _)).more hb.size)
  have HR7 := Lib.hid ((HR7.out.below hb (Nat.le_refl _)).more hb.size)
  have HRD1 := Lib.hid hrd1
  have HX81 := Lib.hid hx81
  have HFF1 := Lib.hid hff1
  clear hb p0 p1 p2 p3 p4 hrd1 hx81 hff1 HB11 HF1
  obtain ⟨p0, p1, p2, p3, p4⟩ := HKB3.out _ HB12.out
  go_wp2_with fail
  refine (HF2.out _ HB12.out).mono ?_
  rintro e w8 ⟨hb, q2, E2, A9, c9, rfl, hrd2, hq82, hx82, hff2⟩
  have HB13 := Lib.hid (belowT HB12.out hb)
  have HK4 := Lib.hid (HK4.out.same (hb.block _ HK4.out.lt))
  have HK5 := Lib.hid (HK5.out.same (hb.block _ HK5.out.lt))
  have HR6 := Lib.hid ((HR6.out.below hb (Nat.le_refl _)).more hb.size)
  have HR7 := Lib.hid ((HR7.out.below hb (Nat.le_refl _)).more hb.size)
  have HRD1 := Lib.hid ((HRD1.out.below hb (Nat.le_refl _)).more hb.size)
  have hm1 : ∀ V, Below w8.heap.size w8 V → Calls Try.prog 52 #[.slice A8 q1.length c8] V fun e w' => e = .returned (iv (manyTo q1 q1.length : Nat)) ∧ Below V.heap.size V w' := fun V hb => blocks52_any w8.heap.size A8 q1 c8 V (by omega) (fun x hx => by have := HX81.out x hx; omega) (HRD1.out.below hb (Nat.le_refl _)) hb.size
  have hm2 : ∀ V, Below w8.heap.size w8 V → Calls Try.prog 52 #[.slice A9 q2.length c9] V fun e w' => e = .returned (iv (manyTo q2 q2.length : Nat)) ∧ Below V.heap.size V w' := fun V hb => blocks52_any w8.heap.size A9 q2 c9 V (by omega) (fun x hx => by have := hx82 x hx; omega) (hrd2.below hb (Nat.le_refl _)) hb.size
  have he1 := HFF1.out.err
  have he2 := hff2.err
  have hfew := HFF.out q1 q2 E1 E2 HFF1.out hff2
  obtain ⟨M1, hM1⟩ : ∃ M, manyTo q1 q1.length = M := ⟨_, rfl⟩
  obtain ⟨M2, hM2⟩ : ∃ M, manyTo q2 q2.length = M := ⟨_, rfl⟩
  rw [hM1] at hm1 hfew
  rw [hM2] at hm2 hfew
  have HM1 := Lib.hid hm1
  have HM2 := Lib.hid hm2
  have HFEW := Lib.hid hfew
  have k0 : w8.cell? ⟨gp, 0, none⟩ = some (iv a1) := HK4.out.cell 0
  have k1 : w8.cell? ⟨gp, 1, none⟩ = some (iv a2) := HK4.out.cell 1
  have k2 : w8.cell? ⟨gq, 0, none⟩ = some (iv a3) := HK5.out.cell 0
  have k3 : w8.cell? ⟨gq, 1, none⟩ = some (iv a4) := HK5.out.cell 1
  have hd1 : decide (a3 < a1) = false := decide_eq_false (by have := HD1.out; omega)
  have hd2 : decide (a2 < a4) = false := decide_eq_false (by have := HD2.out; omega)
  have hS1 := HL1.out
  have hS2 := HL2.out
  have hlb : ((S1.length : Int) == (S2.length : Int)) = true := by rw [hS1, hS2]; simp
  have hlb2 : ((S1.length : Int) != (S2.length : Int)) = false := by rw [hS1, hS2]; simp
  clear hb p0 p1 p2 p3 p4 hrd2 hx82 hff2 HB12 HF2 HK4 HK5 HFF HFF1 hm1 hm2 hM1 hM2 hfew hq81 hq82 HRD1 HX81 hS1 hS2 HD1 HD2
  go_wp2_with fail
  clear k0 k1 k2 k3 hd1 hd2 hlb hlb2
  obtain ⟨wq, hwq⟩ : ∃ wq : World, wq = w8 := ⟨_, rfl⟩
  have HBQ : Hid (Below w8.heap.size w8 wq) := Lib.hid (by rw [hwq]; exact belowR _)
  rw [← hwq]
  clear hwq
  go_loopw [21] (fun vi wr => ∃ k : Nat, k ≤ h.ps.length ∧ vi = .int .i64 k ∧ Hid (Below w8.heap.size w8 wr)) (fun vi _ => h.ps.length - (intOf vi).toNat)
  case atStart => exact ⟨0, Nat.zero_le _, rfl, HBQ⟩
  case round =>
    obtain ⟨k, hk, rfl, HBR⟩ := hrel
    have hS1 := HL1.out
    have hS2 := HL2.out
    by_cases hlt : k < h.ps.length
    · obtain ⟨a, b, c, d, g1, g2, g3, g4⟩ := HSA.out k hlt
      obtain ⟨b8, o8, rfl, _, d0, d1⟩ := spAt (HR6.out.below HBR.out (Nat.le_refl _)) g1
      obtain ⟨b9, o9, rfl, _, e0, e1⟩ := spAt (HR7.out.below HBR.out (Nat.le_refl _)) g2
      have hk0 : (0 : Int) ≤ (k : Int) := by omega
      have hkz : (k : Int) < (S1.length : Int) := by omega
      have hkz2 : (k : Int) < (S2.length : Int) := by omega
      have hd1 : decide (c < a) = false := decide_eq_false (by omega)
      have hd2 : decide (b < d) = false := decide_eq_false (by omega)
      simp only at d0 d1 e0 e1
      clear g1 g2 hS1 hS2
      go_wp2_with fail
      go_quiet (fail)
      go_wp2_with fail
      go_roundw
      case rel => exact ⟨k + 1, by omega, by go_num, Lib.hid (belowN HBR.out _)⟩
      case measure => simp [intOf]; omega
    · obtain rfl : k = h.ps.length := by omega
      have hnk : ¬ ((h.ps.length : Int) < (S1.length : Int)) := by omega
      have hnk2 : decide ((h.ps.length : Int) < (S1.length : Int)) = false := decide_eq_false hnk
      clear hS1 hS2
      have HBT := Lib.hid (belowT HB13.out HBR.out)
      rcases he1 with rfl | rfl
      · obtain ⟨rfl, hle⟩ := HFEW.out rfl
        have hdm : decide ((M2 : Int) ≤ (M1 : Int)) = true := decide_eq_true (by omega)
        have hdm2 : (M2 : Int) ≤ (M1 : Int) := by omega
        go_wp2_with fail
        refine (HM2.out _ HBR.out).mono ?_
        rintro e x1 ⟨rfl, hb⟩
        have X1 := Lib.hid (belowT HBR.out hb)
        clear hb
        go_wp2_with fail
        refine (HM1.out _ X1.out).mono ?_
        rintro e x2 ⟨rfl, hb⟩
        have X2 := Lib.hid (belowT X1.out hb)
        clear hb
        go_wp2_with fail
        refine (HAW.out _).mono ?_
        rintro e x3 ⟨rfl, hb⟩
        have X3 := Lib.hid (belowT X2.out hb)
        clear hb
        go_wp2_with fail
        go_ret
        exact ⟨rfl, belowT HW.out (belowT HB13.out X3.out)⟩
      · rcases he2 with rfl | rfl
        · go_wp2_with fail
          refine (HAW.out _).mono ?_
          rintro e x3 ⟨rfl, hb⟩
          have X3 := Lib.hid (belowT HBR.out hb)
          clear hb
          go_wp2_with fail
          go_ret
          exact ⟨rfl, belowT HW.out (belowT HB13.out X3.out)⟩
        · go_wp2_with fail
          refine (HAW.out _).mono ?_
          rintro e x3 ⟨rfl, hb⟩
          have X3 := Lib.hid (belowT HBR.out hb)
          clear hb
          go_wp2_with fail
          go_ret
          exact ⟨rfl, belowT HW.out (belowT HB13.out X3.out)⟩
end Go.Proofs.Ytojgdallodmanaa
