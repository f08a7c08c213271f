/- BlockFewest: the walk (printed by mkFew.py). -/
import Derived.Deep.DeepCutAuto
import Derived.Test.YtojgdallodmanaaZ654d27
import Derived.Test.YtojgdallodmanaaZ150f09
import Derived.Test.YtojgdallodmanaaZ99a0ea
import Derived.Test.YtojgdallodmanaaZ5a0db9
import Derived.Test.YtojgdallodmanaaYN1
import Derived.Test.YtojgdallodmanaaYOpen3
namespace Go.Proofs.Ytojgdallodmanaa
open Go.RowKit

set_option maxRecDepth 100000 in
set_option maxHeartbeats 8000000 in
theorem fewestLaw_any (h : Hul) (A J : Option Addr) (cap capJ : Nat) (AL : Option Addr) (l : List Wgh) (capL : Nat) (AO AT : Option Addr) (os ts : List Nat) (capO capT ja jb B : Nat) (w : World)
    (hH : HulRd w B h A cap J capJ) (hL : RdN 3 encWgh w B AL l) (hlc : l.length ≤ capL) (hcm : capL ≤ maxLen) (hO : Rd1 u8v w B AO os) (hT : Rd1 u8v w B AT ts) (hol : os.length ≤ maxLen) (htl : ts.length ≤ maxLen) (hos : ∀ x ∈ os, x < 256) (hts : ∀ x ∈ ts, x < 256) (hja : ja < 256) (hjb : jb < 256) (hJ0 : J = none → capJ = 0) (hB : B ≤ w.heap.size) :
    Calls Try.prog 12 #[hv h A cap J capJ, .slice AL l.length capL, .agg #[.slice AO os.length capO, .slice AT ts.length capT, .int .u8 ja, .int .u8 jb]] w fun e w' => e = .returned (.bool true) ∧ Below w.heap.size w w' := by
  obtain ⟨W1, hW1, hb1, hzz, p0, p1, p2, p3, p4⟩ := hulBox w h A cap J capJ
  obtain ⟨W2, hW2⟩ : ∃ W2, W1.alloc (.cells #[.slice AO os.length capO, .slice AT ts.length capT, .int .u8 ja, .int .u8 jb] 76) = W2 := ⟨_, rfl⟩
  have hb2 : Below W1.heap.size W1 W2 := by rw [← hW2]; exact belowA (belowR _) _
  have hq : Blk W2 W1.heap.size 76 #[.slice AO os.length capO, .slice AT ts.length capT, .int .u8 ja, .int .u8 jb] := by rw [← hW2]; exact Blk.new W1 76 _
  have q0 : W2.cell? ⟨W1.heap.size, 0, none⟩ = some (.slice AO os.length capO) := hq.cell 0
  have q1 : W2.cell? ⟨W1.heap.size, 1, none⟩ = some (.slice AT ts.length capT) := hq.cell 1
  have q2 : W2.cell? ⟨W1.heap.size, 2, none⟩ = some (.int .u8 ja) := hq.cell 2
  have q3 : W2.cell? ⟨W1.heap.size, 3, none⟩ = some (.int .u8 jb) := hq.cell 3
  have hb0 := belowT hb1 hb2
  have HKB : Hid (∀ W, Below W2.heap.size W2 W → W.cell? ⟨w.heap.size, 0, none⟩ = some (.slice A h.ps.length cap) ∧ W.cell? ⟨w.heap.size, 1, none⟩ = some (.slice J h.js.length capJ) ∧ W.cell? ⟨w.heap.size, 2, none⟩ = some (.int .i64 h.slo) ∧ W.cell? ⟨w.heap.size, 3, none⟩ = some (.int .i64 h.shi) ∧ W.cell? ⟨w.heap.size, 4, none⟩ = some (.int .i64 h.winch)) := Lib.hid fun W hb => ⟨keepC hb (keepC hb2 p0), keepC hb (keepC hb2 p1), keepC hb (keepC hb2 p2), keepC hb (keepC hb2 p3), keepC hb (keepC hb2 p4)⟩
  have HKP : Hid (∀ W, Below W2.heap.size W2 W → W.cell? ⟨W1.heap.size, 0, none⟩ = some (.slice AO os.length capO) ∧ W.cell? ⟨W1.heap.size, 1, none⟩ = some (.slice AT ts.length capT) ∧ W.cell? ⟨W1.heap.size, 2, none⟩ = some (.int .u8 ja) ∧ W.cell? ⟨W1.heap.size, 3, none⟩ = some (.int .u8 jb)) := Lib.hid fun W hb => ⟨keepC hb q0, keepC hb q1, keepC hb q2, keepC hb q3⟩
  have hBz : B ≤ W2.heap.size := Nat.le_trans hB hb0.size
  have HH := Lib.hid (hH.below hb0 hB)
  have HL := Lib.hid (hL.below hb0 hB)
  have HO := Lib.hid (hO.below hb0 hB)
  have HT := Lib.hid (hT.below hb0 hB)
  have HB0 := Lib.hid hb0
  have hlm : l.length ≤ maxLen := Nat.le_trans hlc hcm
  have HLC := Lib.hid hlc
  have HAW := Lib.hid awake_any
  have hwc : ∀ V, Below W2.heap.size W2 V → Calls Try.prog 45 #[.agg #[.slice A h.ps.length cap, .slice J h.js.length capJ, .int .i64 h.slo, .int .i64 h.shi, .int .i64 h.winch], .slice AL l.length capL] V fun e w' => e = .returned (iv (openE h l)) ∧ Below V.heap.size V w' := fun V hb => weighings_any h A J B cap capJ AL l capL V (HH.out.below hb hBz) (HL.out.below hb hBz) hlm (Nat.le_trans hBz hb.size)
  have hfe := fewest_any h A J B cap capJ AL l capL W2 HH.out HL.out HLC.out hBz
  have hws : w.heap.size < W2.heap.size := Nat.lt_of_lt_of_le (lt_of_cell p0) hb2.size
  have hws1 : W1.heap.size < W2.heap.size := hq.lt
  have hola : os.length ≤ 9223372036854775807 := by unfold maxLen at hol; omega
  have htla : ts.length ≤ 9223372036854775807 := by unfold maxLen at htl; omega
  have HOL := Lib.hid (And.intro hol hos)
  have HTL := Lib.hid (And.intro htl hts)
  clear hb0 hb1 hH hL hlc hcm hzz hq hO hT hol htl hos hts
  obtain ⟨p0, p1, p2, p3, p4⟩ := HKB.out _ (belowR W2)
  by_cases hop : openE h l = 0
  case neg =>
    have hfe2 : Calls Try.prog 30 #[.agg #[.slice A h.ps.length cap, .slice J h.js.length capJ, .int .i64 h.slo, .int .i64 h.shi, .int .i64 h.winch], .slice AL l.length capL] W2 fun e w' => e = .returned (.tuple #[.slice none 0 0, iv (openE h l)]) ∧ Below W2.heap.size W2 w' := hfe.mono fun e w' hp => by
      rcases hp.2 with ⟨_, rfl⟩ | ⟨h0, _⟩
      · exact ⟨rfl, hp.1⟩
      · exact absurd h0 hop
    obtain ⟨E, hE⟩ : ∃ E, openE h l = E := ⟨_, rfl⟩
    rw [hE] at hop hwc hfe2
    have hcb : (E != 0) = true := by simpa using hop
    have HWC := Lib.hid hwc
    have HFE := Lib.hid hfe2
    clear hE hop hwc hfe hfe2
    go_enter Try.func12, Try.ntmps12
    go_wp2_with fail
    refine HFE.out.mono ?_
    rintro e w1 ⟨rfl, hb3⟩
    have HB3 := Lib.hid hb3
    clear hb3 hW1 hW2 p0 p1 p2 p3 p4 q0 q1 q2 q3 hb2
    obtain ⟨p0, p1, p2, p3, p4⟩ := HKB.out _ HB3.out
    obtain ⟨q0, q1, q2, q3⟩ := HKP.out _ HB3.out
    go_wp2_with fail
    refine (HWC.out _ HB3.out).mono ?_
    rintro e w2 ⟨rfl, hb3⟩
    have HB4 := Lib.hid (belowT HB3.out hb3)
    clear hb3 p0 p1 p2 p3 p4 q0 q1 q2 q3
    go_wp2_with fail
    refine (HAW.out _).mono ?_
    rintro e y9 ⟨rfl, hb⟩
    have Y9 := Lib.hid (belowT HB4.out hb)
    clear hb
    go_wp2_with fail
    go_ret
    exact ⟨rfl, belowT HB0.out Y9.out⟩
  obtain ⟨hp, hf⟩ := openE_zero_iff hop
  have hr := pre_right hp
  have hn8 := hr.n8
  have hn1 := hr.n1
  have HK := Lib.hid (hulOk (openPre_zero hp).1)
  have HOP := Lib.hid hop
  have hfe2 := hfe.mono fun e w' hp => fewFact hop hp
  rw [hop] at hwc
  have HWC := Lib.hid hwc
  have HFE := Lib.hid hfe2
  have hbad : ∀ (V : World) (q : List Nat) (A9 : Option Addr) (c9 : Nat), Below W2.heap.size W2 V → q.length = h.ps.length → grow 0 q = true → Rd1 nv V V.heap.size A9 q → Calls Try.prog 28 #[.agg #[.slice A h.ps.length cap, .slice J h.js.length capJ, .int .i64 h.slo, .int .i64 h.shi, .int .i64 h.winch], .slice AL l.length capL, .slice A9 h.ps.length c9] V fun e w' => Below V.heap.size V w' ∧ ∃ v, e = .returned (.tuple #[iv v, iv 0]) ∧ BadFact h l q v := fun V q A9 c9 hb hq hg hR => by
    have hl : (intsOf q).length = h.ps.length := by rw [List.length_map]; exact hq
    have := (bad_any h A J V.heap.size cap capJ AL l capL A9 (intsOf q) c9 V ((HH.out.below hb hBz).more (Nat.le_trans hBz hb.size)) ((HL.out.below hb hBz).more (Nat.le_trans hBz hb.size)) HLC.out (nats_ints hR) (by rw [hl]; unfold maxLen; omega) (Nat.le_refl _)).mono fun e w' hp => badFact hop hq hg hp
    rw [hl] at this
    exact this
  have HBAD := Lib.hid hbad
  have hany : ∀ (V : World), Below W2.heap.size W2 V → Calls Try.prog 51 #[.agg #[.slice A h.ps.length cap, .slice J h.js.length capJ, .int .i64 h.slo, .int .i64 h.shi, .int .i64 h.winch], .slice AO os.length capO] V fun e w' => Below V.heap.size V w' ∧ ∃ q : List Nat, q.length = h.ps.length ∧ grow 0 q = true ∧ ∃ A9 c9, e = .returned (.slice A9 h.ps.length c9) ∧ Rd1 nv w' w'.heap.size A9 q := fun V hb => (any51_any h A J B cap capJ AO os capO V hn8 (HO.out.below hb hBz) HOL.out.1 HOL.out.2 (Nat.le_trans hBz hb.size)).mono fun e w' ⟨a, q, b, c, A9, c9, d, f⟩ => ⟨a, q, b, c, A9, c9, d, row_nats b f⟩
  have hany2 : ∀ (V : World), Below W2.heap.size W2 V → Calls Try.prog 51 #[.agg #[.slice A h.ps.length cap, .slice J h.js.length capJ, .int .i64 h.slo, .int .i64 h.shi, .int .i64 h.winch], .slice AT ts.length capT] V fun e w' => Below V.heap.size V w' ∧ ∃ q : List Nat, q.length = h.ps.length ∧ grow 0 q = true ∧ ∃ A9 c9, e = .returned (.slice A9 h.ps.length c9) ∧ Rd1 nv w' w'.heap.size A9 q := fun V hb => (any51_any h A J B cap capJ AT ts capT V hn8 (HT.out.below hb hBz) HTL.out.1 HTL.out.2 (Nat.le_trans hBz hb.size)).mono fun e w' ⟨a, q, b, c, A9, c9, d, f⟩ => ⟨a, q, b, c, A9, c9, d, row_nats b f⟩
  have HANY := Lib.hid hany
  have HANY2 := Lib.hid hany2
  have hcnt : ∀ (V : World) (q : List Nat) (A9 : Option Addr) (n c9 : Nat), q.length = n → q.length ≤ 8 → (∀ x ∈ q, x < 8) → Rd1 nv V V.heap.size A9 q → Calls Try.prog 52 #[.slice A9 n c9] V fun e w' => e = .returned (iv (manyTo q q.length : Nat)) ∧ Below V.heap.size V w' := fun V q A9 n c9 hn h8 hx hR => by
    subst hn
    exact blocks52_any V.heap.size A9 q c9 V (by omega) (fun x hx' => by have := hx x hx'; omega) hR (Nat.le_refl _)
  have HCNT := Lib.hid hcnt
  have hblk : ∀ (V : World) (q : List Nat) (A9 : Option Addr) (c9 : Nat), q.length = h.ps.length → grow 0 q = true → Rd1 nv V V.heap.size A9 q → Calls Try.prog 49 #[.slice A9 h.ps.length c9] V fun e w' => Below V.heap.size V w' ∧ ∃ A8 c8, e = .returned (.slice A8 (manyTo (pad q) h.ps.length) c8) ∧ ∀ W, Below w'.heap.size w' W → ∀ j, j < manyTo (pad q) h.ps.length → ∃ b o, A8 = some ⟨b, o, none⟩ ∧ b < w'.heap.size ∧ W.cell? ⟨b, o + j, none⟩ = some (nv (blkAt (pad q) h.ps.length j)) := fun V q A9 c9 hq hg hR => by
    rw [← hq]
    refine (blocks49_any V.heap.size A9 q c9 V (by omega) hg hR (Nat.le_refl _)).mono ?_
    rintro e w' ⟨hb, A8, c8, rfl, hown⟩
    have hl := rowB_len (q := q) (by omega) hg (Nat.le_refl q.length)
    have hrd := row_nats hl hown
    refine ⟨hb, A8, c8, rfl, fun W hbW j hj => ?_⟩
    have hj8 : j < 8 := by have := grow_le_k hg q.length (Nat.le_refl _); omega
    have hx : (rowB q q.length)[j]? = some (blkAt (pad q) q.length j) := by
      unfold rowB blkAt
      rw [List.getElem?_take_of_lt hj]
      have : j < (blkTo (pad q) q.length).length := by rw [blkTo_len]; exact hj8
      rw [List.getElem?_eq_getElem this]
      rfl
    obtain ⟨b, o, e1, e2, e3⟩ := hrd j _ hx
    exact ⟨b, o, e1, e2, (hbW.cell (p := ⟨b, o + j, none⟩) e2).trans e3⟩
  have HBLKS := Lib.hid hblk
  have hhang : ∀ (V : World) (s : Nat), Below W2.heap.size W2 V → s < 2 ^ h.ps.length → Calls Try.prog 50 #[.agg #[.slice A h.ps.length cap, .slice J h.js.length capJ, .int .i64 h.slo, .int .i64 h.shi, .int .i64 h.winch], .int .i64 (s : Int)] V fun e w' => e = .returned (.bool (hangsB h.js s)) ∧ Below V.heap.size V w' := fun V s hb hs => refHangs_any h A J W2.heap.size cap capJ s V ((HH.out.below hb hBz).more hBz) hn1 hn8 HK.out.js HK.out.j12 hs hb.size
  have HHANG := Lib.hid hhang
  clear hp hf hop hr hfe hfe2 hwc hbad hany hany2 hcnt hblk hhang
  go_enter Try.func12, Try.ntmps12
  go_wp2_with fail
  refine HFE.out.mono ?_
  rintro e w1 ⟨hb3, qb, E1, Qb, cb, rfl, hrb, hb8, hbx, hfb⟩
  have HB3 := Lib.hid hb3
  have RB := Lib.hid hrb
  have XB := Lib.hid (And.intro hb8 (And.intro hbx hfb))
  have herr := hfb.err
  clear hb3 hrb hb8 hbx hfb hW1 hW2 p0 p1 p2 p3 p4 q0 q1 q2 q3 hb2 HFE
  obtain ⟨p0, p1, p2, p3, p4⟩ := HKB.out _ HB3.out
  obtain ⟨q0, q1, q2, q3⟩ := HKP.out _ HB3.out
  go_wp2_with fail
  refine (HWC.out _ HB3.out).mono ?_
  rintro e w2 ⟨rfl, hb3⟩
  have HB4 := Lib.hid (belowT HB3.out hb3)
  have HC2 := Lib.hid hb3
  clear hb3 p0 p1 p2 p3 p4 q0 q1 q2 q3 HWC
  obtain ⟨p0, p1, p2, p3, p4⟩ := HKB.out _ HB4.out
  obtain ⟨q0, q1, q2, q3⟩ := HKP.out _ HB4.out
  go_wp2_with fail
  refine (HANY.out _ HB4.out).mono ?_
  rintro e w3 ⟨hb3, q, hq, hg, A9, c9, rfl, hrq⟩
  have HB5 := Lib.hid (belowT HB4.out hb3)
  have HC3 := Lib.hid hb3
  have RQ := Lib.hid hrq
  have XQ := Lib.hid (And.intro hq hg)
  clear hb3 hq hg hrq p0 p1 p2 p3 p4 q0 q1 q2 q3
  obtain ⟨p0, p1, p2, p3, p4⟩ := HKB.out _ HB5.out
  obtain ⟨q0, q1, q2, q3⟩ := HKP.out _ HB5.out
  go_wp2_with fail
  refine (HBAD.out _ q A9 c9 HB5.out XQ.out.1 XQ.out.2 RQ.out).mono ?_
  rintro e w4 ⟨hb3, v, rfl, hvf⟩
  have HB6 := Lib.hid (belowT HB5.out hb3)
  have HC4 := Lib.hid hb3
  have VF := Lib.hid hvf
  have hvge := hvf.ge
  clear hb3 hvf p0 p1 p2 p3 p4 q0 q1 q2 q3
  have hd1 : decide (v < -1) = false := decide_eq_false (by omega)
  have hd1' : ¬ v < -1 := by omega
  rcases (show v = -1 ∨ 0 ≤ v by omega) with rfl | hv0
  case inr =>
    have hd2 : decide (0 ≤ v) = true := decide_eq_true hv0
    rcases herr with rfl | rfl
    · skip
      go_wp2_with fail
      refine (HAW.out _).mono ?_
      rintro e y9 ⟨rfl, hb⟩
      have Y9 := Lib.hid (belowT HB6.out hb)
      clear hb
      go_wp2_with fail
      go_ret
      exact ⟨rfl, belowT HB0.out Y9.out⟩
    · skip
      go_wp2_with fail
      refine (HAW.out _).mono ?_
      rintro e y9 ⟨rfl, hb⟩
      have Y9 := Lib.hid (belowT HB6.out hb)
      clear hb
      go_wp2_with fail
      go_ret
      exact ⟨rfl, belowT HB0.out Y9.out⟩

  have hleast := fewest_least HOP.out XQ.out.1 XQ.out.2 XB.out.2.2 VF.out
  obtain ⟨rfl, hmm⟩ := hleast
  clear herr hd1 hd1' hvge
  have hq8 : ∀ x ∈ q, x < 8 := fun x hx => by have := grow_lt XQ.out.2 XQ.out.1 x hx; omega
  have hc1 := fun V (hb : Below w4.heap.size w4 V) => HCNT.out V q A9 h.ps.length c9 XQ.out.1 (by have := XQ.out.1; omega) hq8 ((RQ.out.below (belowT HC4.out hb) (Nat.le_refl _)).more (belowT HC4.out hb).size)
  have hc2 := fun V (hb : Below w4.heap.size w4 V) => HCNT.out V qb Qb qb.length cb rfl XB.out.1 XB.out.2.1 ((RB.out.below (belowT (belowT HC2.out HC3.out) (belowT HC4.out hb)) (Nat.le_refl _)).more (belowT (belowT HC2.out HC3.out) (belowT HC4.out hb)).size)
  obtain ⟨Mq, hMq⟩ : ∃ M, manyTo q q.length = M := ⟨_, rfl⟩
  obtain ⟨Mb, hMb⟩ : ∃ M, manyTo qb qb.length = M := ⟨_, rfl⟩
  simp only [hMq, hMb] at hc1 hc2 hmm
  have HC1' := Lib.hid hc1
  have HC2' := Lib.hid hc2
  have hdm : decide ((Mq : Int) < (Mb : Int)) = false := decide_eq_false (by omega)
  have hdm2 : ¬ Mq < Mb := by omega
  clear hc1 hc2 hMq hMb hmm hq8
  go_wp2_with fail
  refine (HC1'.out _ (belowR _)).mono ?_
  rintro e w5 ⟨rfl, hb3⟩
  have HD5 := Lib.hid hb3
  clear hb3
  go_wp2_with fail
  refine (HC2'.out _ HD5.out).mono ?_
  rintro e w6 ⟨rfl, hb3⟩
  have HD6 := Lib.hid (belowT HD5.out hb3)
  have HB8 := Lib.hid (belowT HB6.out HD6.out)
  clear hb3 HC1' HC2'
  obtain ⟨p0, p1, p2, p3, p4⟩ := HKB.out _ HB8.out
  obtain ⟨q0, q1, q2, q3⟩ := HKP.out _ HB8.out
  go_wp2_with fail
  refine (HANY2.out _ HB8.out).mono ?_
  rintro e w7 ⟨hb3, qt, hq2, hg2, A7, c7, rfl, hrq2⟩
  have HB9 := Lib.hid (belowT HB8.out hb3)
  have RQ2 := Lib.hid hrq2
  have XQ2 := Lib.hid hq2
  have HQ7 : Hid (∀ V, Below w7.heap.size w7 V → Rd1 nv V w7.heap.size A9 q) := Lib.hid fun V hb => ((RQ.out.below (belowT (belowT HC4.out HD6.out) hb3) (Nat.le_refl _)).more (belowT (belowT HC4.out HD6.out) hb3).size).below hb (Nat.le_refl _)
  have HQ27 : Hid (∀ V, Below w7.heap.size w7 V → Rd1 nv V w7.heap.size A7 qt) := Lib.hid fun V hb => RQ2.out.below hb (Nat.le_refl _)
  clear hb3 hq2 hg2 hrq2 p0 p1 p2 p3 p4 q0 q1 q2 q3 RQ RQ2 HC2 HC3 HC4 HD5 HD6 hdm hdm2
  obtain ⟨i3, hi3, hz30, hz31, hz32⟩ := info_parts Try.info3
  obtain ⟨wq, hwq⟩ : ∃ wq : World, wq = w7 := ⟨_, rfl⟩
  have HBQ : Hid (Below w7.heap.size w7 wq) := Lib.hid (by rw [hwq]; exact belowR _)
  have HOQ : Hid (wq.ownsRow w7.heap.size 3 1 (.slice none 0 0) 0 []) := Lib.hid (World.ownsRow_nil _ _ _ _)
  rw [← hwq]
  clear hwq
  have hB9z := HB9.out.size
  go_wp2_with fail
  go_loopw [14, 15, 16] (fun vo vn vi wr => ∃ (i : Nat) (f : List Nat) (A6 : Option Addr) (c6 m : Nat), i ≤ h.ps.length ∧ vi = .int .i64 i ∧ vn = .int .i64 m ∧ m ≤ i ∧ vo = .slice A6 i c6 ∧ Hid (f.length = i ∧ grow 0 f = true ∧ manyTo f f.length = m ∧ FineTo q f i) ∧ Hid (wr.ownsRow w7.heap.size 3 1 (.slice A6 i c6) i (f.map nv)) ∧ Hid (Below w7.heap.size w7 wr)) (fun _ _ vi _ => h.ps.length - (intOf vi).toNat)
  case atStart => exact ⟨0, [], none, 0, 0, Nat.zero_le _, rfl, rfl, Nat.le_refl _, rfl, Lib.hid ⟨rfl, rfl, rfl, fun a b ha => by omega⟩, HOQ, HBQ⟩
  case round =>
    obtain ⟨i, f, A6, c6, m, hi, rfl, rfl, hmi, rfl, HG, HOR, HBR⟩ := hrel
    by_cases hlt : i < h.ps.length
    · have hiz : (i : Int) < (h.ps.length : Int) := by omega
      go_wp2_with fail
      go_loopw [17, 18] (fun vv vk wr => ∃ (k v : Nat), k ≤ i ∧ vk = .int .i64 k ∧ vv = .int .i64 v ∧ v ≤ m ∧ Hid (v = manyTo f f.length ∨ ∃ a, a < i ∧ f[a]? = some v ∧ q[a]? = q[i]?) ∧ Hid (wr.ownsRow w7.heap.size 3 1 (.slice A6 i c6) i (f.map nv)) ∧ Hid (Below w7.heap.size w7 wr)) (fun _ vk _ => i - (intOf vk).toNat)
      case atStart => exact ⟨0, m, Nat.zero_le _, rfl, rfl, Nat.le_refl _, Lib.hid (.inl HG.out.2.2.1.symm), HOR, HBR⟩
      case round =>
        clear HOR HBR
        obtain ⟨k, v, hk, rfl, rfl, hvm, HV, HOR, HBR⟩ := hrel
        by_cases hki : k < i
        · have hkz : (k : Int) < (i : Int) := by omega
          obtain ⟨x1, hx1⟩ : ∃ x, q[k]? = some x := ⟨_, List.getElem?_eq_getElem (by have := XQ.out.1; omega)⟩
          obtain ⟨x2, hx2⟩ : ∃ x, q[i]? = some x := ⟨_, List.getElem?_eq_getElem (by have := XQ.out.1; omega)⟩
          obtain ⟨y1, hy1⟩ : ∃ x, qt[k]? = some x := ⟨_, List.getElem?_eq_getElem (by have := XQ2.out; omega)⟩
          obtain ⟨y2, hy2⟩ : ∃ x, qt[i]? = some x := ⟨_, List.getElem?_eq_getElem (by have := XQ2.out; omega)⟩
          obtain ⟨z1, hz1⟩ : ∃ x, f[k]? = some x := ⟨_, List.getElem?_eq_getElem (by have := HG.out.1; omega)⟩
          have hzm : z1 < m := by have := lt_many hz1; have := HG.out.2.2.1; omega
          obtain ⟨b1, o1, hA9, hb1, s1⟩ := HQ7.out wr HBR.out k x1 hx1
          obtain ⟨b1', o1', hA9', _, s2⟩ := HQ7.out wr HBR.out i x2 hx2
          obtain ⟨rfl, rfl⟩ : b1 = b1' ∧ o1 = o1' := by rw [hA9] at hA9'; injection hA9' with e1; injection e1 with e2 e3; exact ⟨e2, e3⟩
          obtain ⟨b2, o2, hA7, hb2, s3⟩ := HQ27.out wr HBR.out k y1 hy1
          obtain ⟨b2', o2', hA7', _, s4⟩ := HQ27.out wr HBR.out i y2 hy2
          obtain ⟨rfl, rfl⟩ : b2 = b2' ∧ o2 = o2' := by rw [hA7] at hA7'; injection hA7' with e1; injection e1 with e2 e3; exact ⟨e2, e3⟩
          obtain ⟨b3, o3, hA6, hb3, s5⟩ := row_nats HG.out.1 HOR.out k z1 hz1
          subst hA9 hA7 hA6
          clear hA9' hA7'
          have HX := Lib.hid (And.intro hx1 (And.intro hx2 hz1))
          clear hx1 hx2 hy1 hy2 hz1
          have hDR : Hid (wr.drew.ownsRow w7.heap.size 3 1 (.slice (some ⟨b3, o3, none⟩) i c6) i (f.map nv)) := Lib.hid HOR.out.drew
          have hBD : Hid (Below w7.heap.size w7 wr.drew) := Lib.hid (belowDq HBR.out)
          have hx10 : (k : Int) < (h.ps.length : Int) := by omega
          rcases Nat.lt_trichotomy x1 x2 with hxx | rfl | hxx
          case inl =>
            have hce : ((x1 : Int) == (x2 : Int)) = false := by rw [beq_eq_false_iff_ne]; omega
            go_wp2_with fail
            go_quiet (fail)
            have HB7 := Lib.hid (belowN HBR.out nq)
            have HO7 := Lib.hid (own_below HOR.out (belowN (belowR _) nq))
            generalize wr.drewN nq = wn at *
            go_wp2_with fail
            go_roundw
            case rel => exact ⟨k + 1, v, by omega, by go_num, rfl, hvm, HV, HO7, HB7⟩
            case measure => simp [intOf]; omega
          case inr.inr =>
            have hce : ((x1 : Int) == (x2 : Int)) = false := by rw [beq_eq_false_iff_ne]; omega
            go_wp2_with fail
            go_quiet (fail)
            have HB7 := Lib.hid (belowN HBR.out nq)
            have HO7 := Lib.hid (own_below HOR.out (belowN (belowR _) nq))
            generalize wr.drewN nq = wn at *
            go_wp2_with fail
            go_roundw
            case rel => exact ⟨k + 1, v, by omega, by go_num, rfl, hvm, HV, HO7, HB7⟩
            case measure => simp [intOf]; omega
          case inr.inl =>
            have hce : ((x1 : Int) == (x1 : Int)) = true := by simp
            rcases Nat.lt_trichotomy y1 y2 with hyy | rfl | hyy
            case inl =>
              have hcf : ((y1 : Int) == (y2 : Int)) = false := by rw [beq_eq_false_iff_ne]; omega
              go_wp2_with fail
              go_quiet (fail)
              have HB7 := Lib.hid (belowN HBR.out nq)
              have HO7 := Lib.hid (own_below HOR.out (belowN (belowR _) nq))
              generalize wr.drewN nq = wn at *
              go_wp2_with fail
              go_roundw
              case rel => exact ⟨k + 1, v, by omega, by go_num, rfl, hvm, HV, HO7, HB7⟩
              case measure => simp [intOf]; omega
            case inr.inr =>
              have hcf : ((y1 : Int) == (y2 : Int)) = false := by rw [beq_eq_false_iff_ne]; omega
              go_wp2_with fail
              go_quiet (fail)
              have HB7 := Lib.hid (belowN HBR.out nq)
              have HO7 := Lib.hid (own_below HOR.out (belowN (belowR _) nq))
              generalize wr.drewN nq = wn at *
              go_wp2_with fail
              go_roundw
              case rel => exact ⟨k + 1, v, by omega, by go_num, rfl, hvm, HV, HO7, HB7⟩
              case measure => simp [intOf]; omega
            case inr.inl =>
              have hcf : ((y1 : Int) == (y1 : Int)) = true := by simp
              go_wp2_with fail
              go_quiet (fail)
              have HB7 := Lib.hid (belowN HBR.out nq)
              have HO7 := Lib.hid (own_below HOR.out (belowN (belowR _) nq))
              have s6 : (wr.drewN nq).cell? ⟨b3, o3 + k, none⟩ = some (nv z1) := s5
              generalize wr.drewN nq = wn at *
              have HV2 : Hid (z1 = manyTo f f.length ∨ ∃ a, a < i ∧ f[a]? = some z1 ∧ q[a]? = q[i]?) := Lib.hid (.inr ⟨k, hki, HX.out.2.2, by rw [HX.out.1, HX.out.2.1]⟩)
              go_wp2_with fail
              go_roundw
              case rel => exact ⟨k + 1, z1, by omega, by go_num, rfl, by omega, HV2, HO7, HB7⟩
              case measure => simp [intOf]; omega
        · obtain rfl : k = i := by omega
          have hvc : v < m ∨ v = m := by omega
          have HPUSH : Hid ((f ++ [v]).length = k + 1 ∧ grow 0 (f ++ [v]) = true ∧ manyTo (f ++ [v]) (f ++ [v]).length = max m (v + 1) ∧ FineTo q (f ++ [v]) (k + 1)) := Lib.hid (by
            obtain ⟨g1, g2, g3, g4⟩ := HG.out
            refine ⟨by rw [List.length_append, g1]; rfl, grow_push g2 (by omega), ?_, fine_push g1 g4 HV.out⟩
            rw [List.length_append]
            exact (many_snoc f v).trans (by rw [g3]))
          have APP : Hid (∀ (v6 : Value) (w6 : World), w6.ownsRow w7.heap.size 3 1 v6 (k + 1) (f.map nv ++ [nv v]) → ∃ A10 c10, v6 = .slice A10 (k + 1) c10 ∧ w6.ownsRow w7.heap.size 3 1 (.slice A10 (k + 1) c10) (k + 1) ((f ++ [v]).map nv)) := Lib.hid fun v6 w6 ho => by
            have ho : w6.ownsRow w7.heap.size 3 1 v6 (k + 1) ((f ++ [v]).map nv) := by rw [List.map_append]; exact ho
            have hl : (f ++ [v]).length = k + 1 := HPUSH.out.1
            have ho2 := ho
            rw [← hl] at ho2
            obtain ⟨A10, c10, e, _, _⟩ := own_rd1 ho2
            rw [hl] at e
            exact ⟨A10, c10, e, by rw [← e]; exact ho⟩
          have HAL := Lib.hid (HOR.out.alloc (.cells #[.int .i64 (v : Int)] 3))
          rcases hvc with hvl | rfl
          · have hce : ((v : Int) == (m : Int)) = false := by rw [beq_eq_false_iff_ne]; omega
            go_wp2_with (at_builtin; refine wpList_append_own _ rfl _ _ 40 rfl w7.heap.size 3 i3 (.int .i64 0) 1 8 Try.underlying40 hi3 hz30 hz31 hz32 rfl (by decide) _ _ _ rfl HAL.out ⟨wr.heap.size, 0, none⟩ 1 1 [.int .i64 (v : Int)] rfl rfl ?d1a ?d2a ?d3a ?d4a ?d5a ?_)
            case d1a => exact one_new _ _ _
            case d2a => simp [Value.oneCell']
            case d3a => unfold maxLen; omega
            case d4a => omega
            case d5a => have := HBR.out.size; simp only [World.size_alloc]; omega
            intro v6 w6 hown6 hg6 _
            have hb6 : Below w7.heap.size w7 w6 := grownB HAL.out hg6 (Nat.le_refl _) (belowA HBR.out _)
            obtain ⟨A10, c10, rfl, hw10⟩ := APP.out v6 w6 hown6
            have HB66 := Lib.hid hb6
            have HW := Lib.hid hw10
            clear hown6 hg6 hb6 hw10
            go_wp2_with fail
            go_roundw
            case rel => exact ⟨k + 1, f ++ [v], A10, c10, m, by omega, by go_num, by go_num, by omega, rfl, Lib.hid ⟨HPUSH.out.1, HPUSH.out.2.1, by rw [HPUSH.out.2.2.1]; omega, HPUSH.out.2.2.2⟩, HW, HB66⟩
            case measure => simp [intOf]; omega
          · have hce : ((v : Int) == (v : Int)) = true := by simp
            go_wp2_with (at_builtin; refine wpList_append_own _ rfl _ _ 40 rfl w7.heap.size 3 i3 (.int .i64 0) 1 8 Try.underlying40 hi3 hz30 hz31 hz32 rfl (by decide) _ _ _ rfl HAL.out ⟨wr.heap.size, 0, none⟩ 1 1 [.int .i64 (v : Int)] rfl rfl ?d1b ?d2b ?d3b ?d4b ?d5b ?_)
            case d1b => exact one_new _ _ _
            case d2b => simp [Value.oneCell']
            case d3b => unfold maxLen; omega
            case d4b => omega
            case d5b => have := HBR.out.size; simp only [World.size_alloc]; omega
            intro v6 w6 hown6 hg6 _
            have hb6 : Below w7.heap.size w7 w6 := grownB HAL.out hg6 (Nat.le_refl _) (belowA HBR.out _)
            obtain ⟨A10, c10, rfl, hw10⟩ := APP.out v6 w6 hown6
            have HB66 := Lib.hid hb6
            have HW := Lib.hid hw10
            clear hown6 hg6 hb6 hw10
            go_wp2_with fail
            go_roundw
            case rel => exact ⟨k + 1, f ++ [v], A10, c10, v + 1, by omega, by go_num, by go_num, by omega, rfl, Lib.hid ⟨HPUSH.out.1, HPUSH.out.2.1, by rw [HPUSH.out.2.2.1]; omega, HPUSH.out.2.2.2⟩, HW, HB66⟩
            case measure => simp [intOf]; omega
    · obtain rfl : i = h.ps.length := by omega
      have HB10 := Lib.hid (belowT HB9.out HBR.out)
      have hfin := HG.out
      obtain ⟨g1, g2, g3, g4⟩ := hfin
      have hrf := row_nats g1 HOR.out
      have hbk := HBLKS.out wr f A6 c6 g1 g2 hrf
      have hpm : manyTo (pad f) h.ps.length = m := by rw [← g1, many_pad _ (Nat.le_refl _)]; exact g3
      have hwt : ∀ k, wholeTo h f (k + 1) = (wholeTo h f k && hangsB h.js (blkAt (pad f) h.ps.length k)) := whole_succ h f
      have HFG : Hid (∀ v, BadFact h l f v → (v = -1 ↔ wholeTo h f m = true)) := Lib.hid fun v hv => by
        rw [finer_good HOP.out XQ.out.1 XQ.out.2 g1 g2 (fun a b ha hb e => g4 a b ha hb e) VF.out hv, whole_iff, hpm]
      have HBF := Lib.hid (fun V (hb : Below wr.heap.size wr V) => HBAD.out V f A6 c6 (belowT HB10.out hb) g1 g2 ((hrf.below hb (Nat.le_refl _)).more hb.size))
      have HBQ2 := Lib.hid (fun V (hb : Below wr.heap.size wr V) => (HQ7.out V (belowT HBR.out hb)).more (belowT HBR.out hb).size)
      rw [hpm] at hbk
      have HBK := Lib.hid hbk
      have HWT := Lib.hid hwt
      have hm8 : m ≤ 8 := by omega
      clear g1 g2 g3 g4 hrf hbk hpm hwt HG HOR HQ7 HQ27 hmi hi hlt
      obtain ⟨BS, hBS⟩ : ∃ BS, blkAt (pad f) h.ps.length = BS := ⟨_, rfl⟩
      have hBL : ∀ j, BS j < 2 ^ h.ps.length := fun j => by rw [← hBS]; exact blkAt_lt j
      rw [hBS] at HBK HWT
      obtain ⟨WH, hWH⟩ : ∃ WH : Nat → Bool, wholeTo h f = WH := ⟨_, rfl⟩
      have hW0 : WH 0 = true := by rw [← hWH]; rfl
      rw [hWH] at HFG HWT
      have HBLT := Lib.hid hBL
      have HW0 := Lib.hid hW0
      obtain ⟨wp, hwp⟩ : ∃ wp : World, wp = wr := ⟨_, rfl⟩
      rw [← hwp] at HBK HBF HBQ2 HB10 ⊢
      clear hBS hBL hWH hW0 hwp HBR
      go_wp2_with fail
      refine HBK.out.mono ?_
      rintro e w8 ⟨hb3, A8, c8, rfl, hrow⟩
      have HB11 := Lib.hid (belowT HB10.out hb3)
      have HC8 := Lib.hid hb3
      have HROW := Lib.hid hrow
      clear hb3 hrow HBK
      obtain ⟨wq2, hwq2⟩ : ∃ wq2 : World, wq2 = w8 := ⟨_, rfl⟩
      have HBQ8 : Hid (Below w8.heap.size w8 wq2) := Lib.hid (by rw [hwq2]; exact belowR _)
      rw [← hwq2]
      clear hwq2
      have hB11z := HB11.out.size
      go_wp2_with fail
      go_loopw [20, 21] (fun vw vk wr => ∃ k : Nat, k ≤ m ∧ vk = .int .i64 k ∧ vw = .bool (WH k) ∧ Hid (Below w8.heap.size w8 wr)) (fun _ vk _ => m - (intOf vk).toNat)
      case atStart => exact ⟨0, Nat.zero_le _, rfl, by rw [HW0.out], HBQ8⟩
      case round =>
        obtain ⟨k, hk, rfl, rfl, HBR⟩ := hrel
        have HBR2 := Lib.hid (belowT HB11.out HBR.out)
        by_cases hkm : k < m
        · have hkz : (k : Int) < (m : Int) := by omega
          have hws' := HWT.out k
          cases hwk : WH k with
          | false =>
            rw [hwk] at hws'
            have HWS : Hid (WH (k + 1) = false) := Lib.hid hws'
            clear hws' hwk
            go_wp2_with fail
            go_quiet (fail)
            have HB7 := Lib.hid (belowN HBR.out nq)
            generalize wr.drewN nq = wn at *
            go_wp2_with fail
            go_roundw
            case rel => exact ⟨k + 1, by omega, by go_num, by rw [HWS.out], HB7⟩
            case measure => simp [intOf]; omega
          | true =>
            rw [hwk, Bool.true_and] at hws'
            obtain ⟨b8, o8, hA8, hb8, s8⟩ := HROW.out wr HBR.out k hkm
            subst hA8
            have HSG : Hid (∀ V, Below w8.heap.size w8 V → V.cell? ⟨b8, o8 + k, none⟩ = some (nv (BS k))) := Lib.hid fun V hb => by
              obtain ⟨b9, o9, e9, _, s9⟩ := HROW.out V hb k hkm
              injection e9 with e9
              injection e9 with e91 e92
              rw [e91, e92]
              exact s9
            obtain ⟨s, hs⟩ : ∃ s, BS k = s := ⟨_, rfl⟩
            rw [hs] at hws' HSG s8
            have hsl : s < 2 ^ h.ps.length := by rw [← hs]; exact HBLT.out k
            have HWS := Lib.hid hws'
            have HHK := Lib.hid (fun (V : World) (hb : Below W2.heap.size W2 V) => HHANG.out V s hb hsl)
            have HX1 := Lib.hid (belowT HB11.out (belowDq HBR.out))
            obtain ⟨hg9, hhg9⟩ : ∃ b, hangsB h.js s = b := ⟨_, rfl⟩
            rw [hhg9] at HWS HHK
            clear hws' hwk hs hsl hhg9 s8
            have HX0 := Lib.hid (belowDq HBR.out)
            go_wp2_with fail
            go_region_held3 (fun W => (W.cell? ⟨w.heap.size, 0, none⟩ = some (.slice A h.ps.length cap) ∧ W.cell? ⟨w.heap.size, 1, none⟩ = some (.slice J h.js.length capJ) ∧ W.cell? ⟨w.heap.size, 2, none⟩ = some (.int .i64 h.slo) ∧ W.cell? ⟨w.heap.size, 3, none⟩ = some (.int .i64 h.shi) ∧ W.cell? ⟨w.heap.size, 4, none⟩ = some (.int .i64 h.winch)) ∧ W.cell? ⟨b8, o8 + k, none⟩ = some (.int .i64 (s : Int))) (first | exact ⟨HKB.out _ HX1.out, HSG.out _ HX0.out⟩ | exact ⟨HKB.out _ HY1.out, HSG.out _ HY.out⟩) ((go_at_call 50; (with_reducible refine (HHK.out _ HX1.out).mono ?_); rintro e w9 ⟨rfl, hb9⟩; have HY := Lib.hid (belowT HX0.out hb9); have HY1 := Lib.hid (belowT HX1.out hb9)))
            clear hb9
            go_wp2_with fail
            go_roundw
            case rel => exact ⟨k + 1, by omega, by go_num, by rw [HWS.out], HY⟩
            case measure => simp [intOf]; omega
        · obtain rfl : k = m := by omega
          have hws3 : w.heap.size < wr.heap.size := by have := HBR.out.size; omega
          obtain ⟨p0, p1, p2, p3, p4⟩ := HKB.out _ HBR2.out
          have HBFv := Lib.hid (HBF.out wr (belowT HC8.out HBR.out))
          go_wp2_with fail
          refine HBFv.out.mono ?_
          rintro e x1 ⟨hb3, v, rfl, hvf⟩
          have X1 := Lib.hid (belowT HBR2.out hb3)
          have HC9 := Lib.hid (belowT (belowT HC8.out HBR.out) hb3)
          have hiff := HFG.out v hvf
          have hvd : (v == (-1 : Int)) = WH k := by
            cases hw : WH k with
            | true => rw [hiff.2 hw]; rfl
            | false =>
              rw [beq_eq_false_iff_ne]
              intro e
              rw [hiff.1 e] at hw
              cases hw
          obtain ⟨WK, hWK⟩ : ∃ b, WH k = b := ⟨_, rfl⟩
          rw [hWK] at hvd ⊢
          clear hb3 hvf hiff hWK HBFv p0 p1 p2 p3 p4
          have hbx : ∀ b : Bool, (b != b) = false := fun b => by cases b <;> rfl
          have hbx1 := hbx WK
          have HVD := Lib.hid hvd
          obtain ⟨p0, p1, p2, p3, p4⟩ := HKB.out _ X1.out
          clear hbx
          cases WK
          all_goals (
            go_upto_region 37 with fail
            obtain ⟨gh, hgh⟩ : ∃ g, x1.heap.size = g := ⟨_, rfl⟩
            obtain ⟨x2, hx2⟩ : ∃ x2, x1.alloc (.cells #[.slice A h.ps.length cap, .slice J h.js.length capJ, .int .i64 h.slo, .int .i64 h.shi, .int .i64 h.winch] 27) = x2 := ⟨_, rfl⟩
            have hb2 : Below x1.heap.size x1 x2 := by rw [← hx2]; exact belowA (belowR _) _
            have hk2 : Blk x2 gh 27 #[.slice A h.ps.length cap, .slice J h.js.length capJ, .int .i64 h.slo, .int .i64 h.shi, .int .i64 h.winch] := by rw [← hx2, ← hgh]; exact Blk.new x1 27 _
            rw [hx2, hgh]
            have hgW : W2.heap.size ≤ gh := by rw [← hgh]; exact X1.out.size
            have hgP : wp.heap.size ≤ gh := by rw [← hgh]; exact HC9.out.size
            have X2 := Lib.hid (belowT X1.out hb2)
            have X12 := Lib.hid hb2
            have HK2 := Lib.hid hk2
            have hghl := hk2.lt
            clear hx2 hgh hb2 hk2 p0 p1 p2 p3 p4
            obtain ⟨ra, hra⟩ : ∃ r, ja % h.ps.length = r := ⟨_, rfl⟩
            obtain ⟨rb, hrb⟩ : ∃ r, jb % h.ps.length = r := ⟨_, rfl⟩
            refine reg12_37 (n := h.ps.length) (cap := cap) (A := A) (a := ra) (b := rb) hja hjb (by omega) hn8 (by rw [← hra]; simp) (by rw [← hrb]; simp) (fun W hb => ⟨(HKB.out W (belowT X2.out hb)).1, (HKP.out W (belowT X2.out hb)).2.2⟩) ?_
            intro gj u168 u169 u170 u171 u172 u173 u174 u175 u176 u177 u178 u179 u180 u181 u182 u183 u184 wx hbx hgj hbj
            have X3 := Lib.hid (belowT X2.out hbx)
            have X23 := Lib.hid hbx
            have hjl12 := HK.out.j12
            have hjs := ((HH.out.js.below (belowT X2.out hbx) hBz).more (Nat.le_trans hBz (belowT X2.out hbx).size))
            have hsrc := srcs_rdN encSp_len (fun x u hu => by simp only [encSp, List.mem_cons, List.not_mem_nil, or_false] at hu; rcases hu with rfl | rfl <;> rfl) hjs (Nat.le_refl _) HH.out.jl HH.out.jm hJ0
            obtain ⟨lo, hlo⟩ : ∃ lo, min (ra : Int) (rb : Int) = lo := ⟨_, rfl⟩
            obtain ⟨hi, hhi⟩ : ∃ hi, max (ra : Int) (rb : Int) = hi := ⟨_, rfl⟩
            have HKx := Lib.hid (HK2.out.same (hbx.block _ HK2.out.lt))
            go_upto_region 38 with fail
            refine reg12_38 (a := (ra : Int)) (b := (rb : Int)) hlo hhi hjl12 hsrc (fun W hb => ⟨(HKB.out W (belowT X3.out hb)).2.1, (hbj.same (hb.block _ hbj.lt)).cell 0, (hbj.same (hb.block _ hbj.lt)).cell 1⟩) (by omega) (by omega) (fun W hb => ⟨(HKx.out.same (hb.block _ HKx.out.lt)).cell 1, (HKx.out.same (hb.block _ HKx.out.lt)).frozen 1⟩) ?_
            intro u185 u186 u187 u188 u189 u190 u191 u192 u193 u194 u195 u196 u197 u198 u199 u200 u201 u202 v' W' hL'
            have hown : W'.ownsRow wx.heap.size 79 2 v' (h.js.length + 1) ((h.js ++ [(lo, hi)]).flatMap encSp) := by
              have := live_own hL'.2 (i := 0) rfl
              rw [List.flatMap_append]
              exact this
            have hlx := Nat.lt_of_lt_of_le HKx.out.lt (Nat.le_refl _)
            have hown2 : (W'.setCell ⟨gh, 1, none⟩ v').ownsRow wx.heap.size 79 2 v' (h.js.length + 1) ((h.js ++ [(lo, hi)]).flatMap encSp) := ownKeep hown fun g hg => by
              have := (hown.lt g hg).1
              exact Below.heap_setCell _ _ _ g (by simp only; omega)
            have hlen : (h.js ++ [(lo, hi)]).length = h.js.length + 1 := by rw [List.length_append]; rfl
            obtain ⟨A5, c5, hv5, hrd5, hro⟩ : ∃ A5 c5, v' = .slice A5 (h.js.length + 1) c5 ∧ RdN 2 encSp (W'.setCell ⟨gh, 1, none⟩ v') (W'.setCell ⟨gh, 1, none⟩ v').heap.size A5 (h.js ++ [(lo, hi)]) ∧ h.js.length + 1 ≤ c5 ∧ c5 ≤ maxLen := by
              have h2 := hown2
              rw [← hlen] at h2
              obtain ⟨A5, c5, e5, a5, _, b5, d5⟩ := own_rdN encSp_len h2
              rw [hlen] at e5 b5
              exact ⟨A5, c5, e5, a5, b5, d5⟩
            subst hv5
            obtain ⟨x4, hx4⟩ : ∃ x4, W'.setCell ⟨gh, 1, none⟩ (.slice A5 (h.js.length + 1) c5) = x4 := ⟨_, rfl⟩
            have hb4 : Below W2.heap.size W2 x4 := by rw [← hx4]; exact belowS (belowT X3.out hL'.1) hgW _
            have hk4 : Blk x4 gh 27 #[.slice A h.ps.length cap, .slice A5 (h.js.length + 1) c5, .int .i64 h.slo, .int .i64 h.shi, .int .i64 h.winch] := by
              rw [← hx4]
              exact (HKx.out.same (hL'.1.block _ HKx.out.lt)).set_ 1 _
            have hb84 : Below wp.heap.size wp x4 := by
              rw [← hx4]
              exact belowS (belowT (belowT (belowT HC9.out X12.out) X23.out) hL'.1) hgP _
            rw [hx4] at hrd5 ⊢
            have hmr : ∀ V, Below x4.heap.size x4 V → HulRd V V.heap.size (moreJ h (lo, hi)) A cap A5 c5 := fun V hb =>
              have hH := (HH.out.below (belowT hb4 hb) hBz).more (Nat.le_trans hBz (belowT hb4 hb).size)
              ⟨hH.ps, (hrd5.below hb (Nat.le_refl _)).more hb.size, hH.pl, hH.pm, by rw [show (moreJ h (lo, hi)).js.length = h.js.length + 1 from hlen]; exact hro.1, hro.2, hH.nm⟩
            have hck : Calls Try.prog 18 #[.agg #[.slice A h.ps.length cap, .slice A5 (h.js.length + 1) c5, .int .i64 h.slo, .int .i64 h.shi, .int .i64 h.winch]] x4 fun e w' => e = .returned (ret3 (checkE (moreJ h (lo, hi)))) ∧ Below x4.heap.size x4 w' := by
              have := refCheck_any (moreJ h (lo, hi)) A A5 x4.heap.size cap c5 x4 (hmr x4 (belowR _)) (Nat.le_refl _)
              unfold hv at this
              rw [show (moreJ h (lo, hi)).js.length = h.js.length + 1 from hlen] at this
              exact this
            have hbm : (checkE (moreJ h (lo, hi))).2.2 = 0 → ∀ V, Below x4.heap.size x4 V → Calls Try.prog 28 #[.agg #[.slice A h.ps.length cap, .slice A5 (h.js.length + 1) c5, .int .i64 h.slo, .int .i64 h.shi, .int .i64 h.winch], .slice AL l.length capL, .slice A9 h.ps.length c9] V fun e w' => Below V.heap.size V w' ∧ e = .returned (.tuple #[iv (-1), iv 0]) := fun hc V hb => by
              have hl : (intsOf q).length = h.ps.length := by rw [List.length_map]; exact XQ.out.1
              have hwV := belowT hb84 hb
              have hRq := HBQ2.out V hwV
              have := (bad_any (moreJ h (lo, hi)) A A5 V.heap.size cap c5 AL l capL A9 (intsOf q) c9 V (hmr V hb) ((HL.out.below (belowT hb4 hb) hBz).more (Nat.le_trans hBz (belowT hb4 hb).size)) HLC.out (nats_ints hRq) (by rw [hl]; unfold maxLen; omega) (Nat.le_refl _)).mono fun e w' hp => badFact (moreJ_open HOP.out hc) XQ.out.1 XQ.out.2 hp
              unfold hv at this
              rw [show (moreJ h (lo, hi)).js.length = h.js.length + 1 from hlen, hl] at this
              exact this.mono fun e w' ⟨a, v, e1, e2⟩ => ⟨a, by rw [e1, moreJ_good HOP.out hc VF.out e2]⟩
            obtain ⟨P, hP⟩ : ∃ P, checkE (moreJ h (lo, hi)) = P := ⟨_, rfl⟩
            rw [hP] at hck hbm
            obtain ⟨P1, P2, P3⟩ := P
            simp only [ret3] at hck hbm
            have HCK := Lib.hid hck
            have HBM := Lib.hid hbm
            have HB4 := Lib.hid hb4
            have hgl := hk4.lt
            have HK4 : Hid (∀ V, Below x4.heap.size x4 V → V.cell? ⟨gh, 0, none⟩ = some (.slice A h.ps.length cap) ∧ V.cell? ⟨gh, 1, none⟩ = some (.slice A5 (h.js.length + 1) c5) ∧ V.cell? ⟨gh, 2, none⟩ = some (.int .i64 h.slo) ∧ V.cell? ⟨gh, 3, none⟩ = some (.int .i64 h.shi) ∧ V.cell? ⟨gh, 4, none⟩ = some (.int .i64 h.winch)) := Lib.hid fun V hb => by
              have := hk4.same (hb.block _ hk4.lt)
              exact ⟨this.cell 0, this.cell 1, this.cell 2, this.cell 3, this.cell 4⟩
            clear hck hbm hP hmr hrd5 hro hlen hown hown2 hL' hx4 hb84 hk4 hb4 hsrc hjs hbj hbx hlo hhi hra hrb hlx
            obtain ⟨p0, p1, p2, p3, p4⟩ := HK4.out _ (belowR _)
            go_wp2_with fail
            refine HCK.out.mono ?_
            rintro e x5 ⟨rfl, hb5⟩
            have Y5 := Lib.hid hb5
            clear hb5 p0 p1 p2 p3 p4 HCK
            obtain ⟨p0, p1, p2, p3, p4⟩ := HK4.out _ Y5.out
            by_cases hP3 : P3 = 0
            · subst hP3
              have HBM2 := Lib.hid (HBM.out rfl)
              clear HBM
              go_wp2_with fail
              refine (HBM2.out _ Y5.out).mono ?_
              rintro e x6 ⟨hb6, rfl⟩
              have Y6 := Lib.hid (belowT Y5.out hb6)
              clear hb6 p0 p1 p2 p3 p4
              go_wp2_with fail
              refine (HAW.out _).mono ?_
              rintro e y9 ⟨rfl, hb⟩
              have Y9 := Lib.hid (belowT (belowT HB4.out Y6.out) hb)
              clear hb
              go_wp2_with fail
              go_ret
              exact ⟨rfl, belowT HB0.out Y9.out⟩
            · have hcb : (P3 != 0) = true := by simpa using hP3
              go_wp2_with fail
              refine (HAW.out _).mono ?_
              rintro e y9 ⟨rfl, hb⟩
              have Y9 := Lib.hid (belowT (belowT HB4.out Y5.out) hb)
              clear hb
              go_wp2_with fail
              go_ret
              exact ⟨rfl, belowT HB0.out Y9.out⟩)

end Go.Proofs.Ytojgdallodmanaa
