/- BlockReached: the walk (printed by mkRch.py). -/
import Derived.Deep.DeepCutAuto
import Derived.Test.YtojgdallodmanaaZ70505d
import Derived.Test.YtojgdallodmanaaYRc1
namespace Go.Proofs.Ytojgdallodmanaa
open Go.RowKit

theorem Try.info67r : (Try.prog.info? 67).map (fun i => (i.zero, i.size, i.bytes)) = some (some (.agg #[.string ⟨#[]⟩, .int .i64 0, .int .i64 0]), 3, 32) := by kernel_rfl
theorem twoBox (w : World) (a c : Nat) : ∃ W1, w.alloc (.cells #[.int .u16 a, .int .u16 c] 64) = W1 ∧ Below w.heap.size w W1 ∧ W1.cell? ⟨w.heap.size, 0, none⟩ = some (.int .u16 a) ∧ W1.cell? ⟨w.heap.size, 1, none⟩ = some (.int .u16 c) :=
  ⟨_, rfl, belowA (belowR _) _, by go_simp, by go_simp⟩
theorem encPrt_one : ∀ (ps : List Prt), ∀ u ∈ ps.flatMap encPrt, u.oneCell' = true := fun ps u hu => by
  obtain ⟨p, _, hp⟩ := List.mem_flatMap.1 hu
  simp only [encPrt, List.mem_cons, List.not_mem_nil, or_false] at hp
  rcases hp with rfl | rfl | rfl <;> rfl
theorem encPrt_len3 (ps : List Prt) : (ps.flatMap encPrt).length = ps.length * 3 := by
  induction ps with
  | nil => rfl
  | cons p ps ih => rw [List.flatMap_cons, List.length_append, ih]; simp [encPrt]; omega
/-- A list of things of several cells each, as news for an append. -/
theorem rdN_news {W : World} {B bd od : Nat} {xs : List Prt} (h : RdN 3 encPrt W B (some ⟨bd, od, none⟩) xs) : ∀ j u, (xs.flatMap encPrt)[j]? = some u → W.cell? ((⟨bd, od, none⟩ : Addr).add j) = some u := fun j u hu => by
  have hj : j < (xs.flatMap encPrt).length := (List.getElem?_eq_some_iff.1 hu).1
  rw [encPrt_len3] at hj
  have hq : j / 3 < xs.length := by omega
  have hm : j % 3 < 3 := Nat.mod_lt _ (by decide)
  have hx := List.getElem?_eq_getElem hq
  obtain ⟨b', o', ee, _, hc⟩ := h (j / 3) _ hx
  injection ee with ee
  injection ee with ee1 ee2
  subst ee1 ee2
  rw [addr_add]
  have hfl := flat_atG (k := 3) (encs := encPrt) (fun _ => rfl) xs (j / 3) _ hx (j % 3) hm
  rw [show j / 3 * 3 + j % 3 = j by omega, hu] at hfl
  have := hc (j % 3) u hfl.symm
  rw [show od + j / 3 * 3 + j % 3 = od + j by omega] at this
  exact this

set_option maxRecDepth 100000 in
set_option maxHeartbeats 32000000 in
theorem reachedLaw_any (h : Hul) (A J : Option Addr) (cap capJ : Nat) (AL : Option Addr) (l : List Wgh) (capL a c B : Nat) (w : World)
    (hH : HulRd w B h A cap J capJ) (hL : RdN 3 encWgh w B AL l) (hlc : l.length ≤ capL) (hcm : capL ≤ maxLen) (ha : a < 65536) (hc : c < 65536) (hB : B ≤ w.heap.size) :
    Calls Try.prog 9 #[hv h A cap J capJ, .slice AL l.length capL, .agg #[.int .u16 a, .int .u16 c]] w fun e w' => e = .returned (.bool true) ∧ Below w.heap.size w w' := by
  obtain ⟨i67, hi67, hz670, hz671, hz672⟩ := info_parts Try.info67r
  obtain ⟨W1, hW1, hb1, hzz, p0, p1, p2, p3, p4⟩ := hulBox w h A cap J capJ
  obtain ⟨W2, hW2, hb2, q0, q1⟩ := twoBox W1 a c
  have hb0 := belowT hb1 hb2
  have HKB : Hid (∀ W, Below W2.heap.size W2 W → W.cell? ⟨w.heap.size, 0, none⟩ = some (.slice A h.ps.length cap) ∧ W.cell? ⟨w.heap.size, 1, none⟩ = some (.slice J h.js.length capJ) ∧ W.cell? ⟨w.heap.size, 2, none⟩ = some (.int .i64 h.slo) ∧ W.cell? ⟨w.heap.size, 3, none⟩ = some (.int .i64 h.shi) ∧ W.cell? ⟨w.heap.size, 4, none⟩ = some (.int .i64 h.winch)) := Lib.hid fun W hb => ⟨keepC hb (keepC hb2 p0), keepC hb (keepC hb2 p1), keepC hb (keepC hb2 p2), keepC hb (keepC hb2 p3), keepC hb (keepC hb2 p4)⟩
  have HKP : Hid (∀ W, Below W2.heap.size W2 W → W.cell? ⟨W1.heap.size, 0, none⟩ = some (.int .u16 a) ∧ W.cell? ⟨W1.heap.size, 1, none⟩ = some (.int .u16 c)) := Lib.hid fun W hb => ⟨keepC hb q0, keepC hb q1⟩
  have hBz : B ≤ W2.heap.size := Nat.le_trans hB hb0.size
  have HH := Lib.hid (hH.below hb0 hB)
  have HL := Lib.hid (hL.below hb0 hB)
  have HB0 := Lib.hid hb0
  have hlm : l.length ≤ maxLen := Nat.le_trans hlc hcm
  have hpl := hH.pl
  have hpm := hH.pm
  unfold maxLen at hpm
  have HLC := Lib.hid hlc
  have HLM := Lib.hid hlm
  have HAW := Lib.hid awake_any
  have hwt := weights_any h A J B cap capJ AL l capL W2 HH.out HL.out hlc hBz
  have HWT := Lib.hid hwt
  clear hb0 hb1 hH hL hlc hcm hlm hzz hwt
  obtain ⟨p0, p1, p2, p3, p4⟩ := HKB.out _ (belowR W2)
  obtain ⟨q0, q1⟩ := HKP.out _ (belowR W2)
  go_enter Try.func9, Try.ntmps9
  go_wp2_with fail
  refine HWT.out.mono ?_
  rintro e w3 ⟨hb3, hcase⟩
  have HB3 := Lib.hid hb3
  clear hW1 hW2 p0 p1 p2 p3 p4 q0 q1 hb2 HWT
  obtain ⟨p0, p1, p2, p3, p4⟩ := HKB.out _ HB3.out
  have hwg := weighings_any h A J B cap capJ AL l capL w3 (HH.out.below hb3 hBz) (HL.out.below hb3 hBz) HLM.out (Nat.le_trans hBz hb3.size)
  clear hb3
  rcases hcase with ⟨hne, rfl⟩ | ⟨h0, hp, hf, N, A3, c3, hN, rfl, hown3⟩
  · obtain ⟨E, hE⟩ : ∃ E, openE h l = E := ⟨_, rfl⟩
    rw [hE] at hwg hne ⊢
    have HWG := Lib.hid hwg
    have hcb : (E != 0) = true := by simpa using hne
    clear hE hne hwg
    go_wp2_with fail
    refine HWG.out.mono ?_
    rintro e w4 ⟨rfl, hb4⟩
    have HB4 := Lib.hid (belowT HB3.out hb4)
    clear hb4 p0 p1 p2 p3 p4
    go_wp2_with (go_at_call 24; refine (HAW.out _).mono ?_; rintro e w5 ⟨rfl, hb5⟩; have HB5 := Lib.hid (belowT HB4.out hb5); clear hb5)
    go_ret
    exact ⟨rfl, belowT HB0.out HB5.out⟩
  · rw [h0] at hwg
    have HWG := Lib.hid hwg
    have hk := hulOk (openPre_zero hp).1
    have hn8 := hk.n8
    have hn1 := hk.n1
    have hspl := spansV_len h N h.ps.length
    have hspr : RdN 2 encSp w3 w3.heap.size A3 (spansV h N h.ps.length) := by
      have h1 : w3.ownsRow W2.heap.size 25 2 (.slice A3 h.ps.length c3) (spansV h N h.ps.length).length ((spansV h N h.ps.length).flatMap encSp) := by rw [hspl]; exact hown3
      obtain ⟨A9, c9, hv9, hR9, _⟩ := own_rdN encSp_len h1
      injection hv9 with h2
      rw [h2]
      exact hR9
    have HSR := Lib.hid hspr
    have HP := Lib.hid hp
    have HF := Lib.hid hf
    have HN := Lib.hid hN
    have HK := Lib.hid hk
    clear hwg hown3 hspl hspr hp hf hN hk h0
    go_wp2_with fail
    refine HWG.out.mono ?_
    rintro e w4 ⟨rfl, hb4⟩
    have HB4 := Lib.hid (belowT HB3.out hb4)
    have HSR4 := Lib.hid (HSR.out.below hb4 (Nat.le_refl _))
    have hz34 : w3.heap.size ≤ w4.heap.size := hb4.size
    clear hb4 p0 p1 p2 p3 p4 HSR HWG
    obtain ⟨p0, p1, p2, p3, p4⟩ := HKB.out _ HB4.out
    obtain ⟨q0, q1⟩ := HKP.out _ HB4.out
    have hil := Nat.mod_lt a (show 0 < h.ps.length by omega)
    have hrem : ((a : Int) % (h.ps.length : Int)) = ((a % h.ps.length : Nat) : Int) := by rw [Int.natCast_emod]
    have hne : ((h.ps.length : Int) == 0) = false := by rw [beq_eq_false_iff_ne]; omega
    obtain ⟨i, hi⟩ : ∃ i, a % h.ps.length = i := ⟨_, rfl⟩
    rw [hi] at hil hrem
    have HREM := Lib.hid hrem
    clear hrem hi
    go_wp2_with fail
    go_quiet (fail)
    go_wp2_with fail
    rw [HREM.out]
    have HBq := Lib.hid (belowN HB4.out nq)
    have HSRq := Lib.hid (HSR4.out.below (belowN (belowR w4) nq) hz34)
    clear p0 p1 p2 p3 p4 q0 q1 hne HREM
    obtain ⟨x, hx⟩ : ∃ x, h.ps[i]? = some x := ⟨_, List.getElem?_eq_getElem hil⟩
    have hin := reach_in HP.out HF.out HN.out hx
    have hp2 : 2 ^ i < 2 ^ h.ps.length := Nat.pow_lt_pow_right (by decide) hil
    have hlb := leastV_bd HP.out HN.out HF.out hp2
    have hmb := mostV_bd HP.out HN.out HF.out hp2
    have hsat : (spansV h N h.ps.length)[i]? = some (leastV h N (2 ^ i), mostV h N (2 ^ i)) := by simp [spansV, hil]
    have HYES : Hid (∀ X, X = leastV h N (2 ^ i) ∨ X = mostV h N (2 ^ i) → openE (withPs h (fixedPs h.ps i X)) l = 0) := Lib.hid fun X hX => reach_yes HP.out HF.out HN.out hx hX
    have HNO : Hid (∀ X, x.lo ≤ X → X ≤ x.hi → (X < leastV h N (2 ^ i) ∨ mostV h N (2 ^ i) < X) → openE (withPs h (fixedPs h.ps i X)) l = 9) := Lib.hid fun X h1 h2 hX => reach_no HP.out HF.out HN.out hx h1 h2 hX
    have HX := Lib.hid hx
    obtain ⟨b3, o3, rfl, _, _, _⟩ := spAt HSRq.out hsat
    obtain ⟨lo, hlo⟩ : ∃ v, leastV h N (2 ^ i) = v := ⟨_, rfl⟩
    obtain ⟨hi, hhi⟩ : ∃ v, mostV h N (2 ^ i) = v := ⟨_, rfl⟩
    rw [hlo] at hin hlb hsat HYES HNO
    rw [hhi] at hin hmb hsat HYES HNO
    have HSAT := Lib.hid hsat
    obtain ⟨bp, op, rfl, _, _, _, _⟩ := prtAt HH.out.ps hx
    obtain ⟨xn, xlo, xhi⟩ := x
    simp only at hin HNO
    obtain ⟨hin0, hin1, hin2⟩ := hin
    obtain ⟨hlb0, hlb1⟩ := hlb
    obtain ⟨hmb0, hmb1⟩ := hmb
    have hi0 : (0 : Int) ≤ (i : Int) := by omega
    have hizl : (i : Int) < (h.ps.length : Int) := by omega
    have HNM : Hid (∀ p ∈ h.ps, p.name.size ≤ maxLen) := Lib.hid HH.out.nm
    have hby0 : (0 : Int) ≤ 1 + (c : Int) := by omega
    have hby1 : 1 + (c : Int) ≤ 1000000 := by omega
    clear hx hlo hhi hsat hp2
    obtain ⟨wq, hwq⟩ : ∃ wq : World, wq = w4.drewN nq := ⟨_, rfl⟩
    have HBQ : Hid (Below (w4.drewN nq).heap.size (w4.drewN nq) wq) := Lib.hid (by rw [hwq]; exact belowR _)
    rw [← hwq]
    clear hwq
    obtain ⟨byv, hby⟩ : ∃ b, 1 + (c : Int) = b := ⟨_, rfl⟩
    rw [hby] at hby0 hby1 ⊢
    have HBY := Lib.hid hby
    clear hby
    go_loopw [12] (fun vi wr => ∃ k : Nat, k ≤ 4 ∧ vi = .int .i64 k ∧ Hid (Below (w4.drewN nq).heap.size (w4.drewN nq) wr)) (fun vi _ => 4 - (intOf vi).toNat)
    case atStart => exact ⟨0, Nat.zero_le _, rfl, HBQ⟩
    case round =>
      obtain ⟨k, hk, rfl, HBR⟩ := hrel
      have HBR2 := Lib.hid (belowT HBq.out HBR.out)
      obtain ⟨s0, s1⟩ := (spAt (HSRq.out.below HBR.out hz34) HSAT.out) |> fun ⟨b9, o9, e9, _, a0, a1⟩ => (by
        injection e9 with e9
        injection e9 with e91 e92
        subst e91 e92
        exact ⟨a0, a1⟩ : wr.cell? ⟨b3, o3 + i * 2, none⟩ = some (iv lo) ∧ wr.cell? ⟨b3, o3 + i * 2 + 1, none⟩ = some (iv hi))
      match k, hk with
      | 0, _ =>
        go_upto_region 11 with fail
        refine reg9_11_0 hil hlb0 (by omega) hmb0 (by omega) hby0 hby1 s0 s1 ?_
        intro u0 u1 u2 u3 u4 u5 u6 u7 u8 u9 u10 u11 u12 u13 u14 u15 u16 u17 u18 u19 u20 u21 u22 u23 u24 u25 u26 u27 wx hbx
        have HBX2 := Lib.hid (belowT HBR2.out hbx)
        have HBXR := Lib.hid (belowT HBR.out hbx)
        have HZX2 := Lib.hid HBX2.out.size
        have HZXR := Lib.hid HBXR.out.size
        obtain ⟨p0, p1, p2, p3, p4⟩ := HKB.out _ HBX2.out
        obtain ⟨b9, o9, e9, _, x0, x1, x2⟩ := prtAt (HH.out.ps.below HBX2.out hBz) HX.out
        injection e9 with e9
        injection e9 with e91 e92
        subst e91 e92
        clear hbx s0 s1
        have hd1 : decide (lo < xlo) = false := by simp; omega
        have hd2 : decide (xhi < lo) = false := by simp; omega
        go_upto_region 15 with fail
        have hEo : openE (withPs h (fixedPs h.ps i (lo))) l = 0 := HYES.out lo (.inl rfl)
        obtain ⟨X, hXX⟩ : ∃ X, (lo : Int) = X := ⟨_, rfl⟩
        rw [hXX] at hEo ⊢
        have HEO := Lib.hid hEo
        clear hEo hXX hd1 hd2
        obtain ⟨W5, hW5⟩ : ∃ W5, wx.alloc (.cells #[.slice (some ⟨bp, op, none⟩) h.ps.length cap, .slice J h.js.length capJ, .int .i64 h.slo, .int .i64 h.shi, .int .i64 h.winch] 27) = W5 := ⟨_, rfl⟩
        have hb5 : Below wx.heap.size wx W5 := by rw [← hW5]; exact belowA (belowR _) _
        have hz5 : wx.heap.size < W5.heap.size := by rw [← hW5]; simp
        have g0 : W5.cell? ⟨wx.heap.size, 0, none⟩ = some (.slice (some ⟨bp, op, none⟩) h.ps.length cap) := by rw [← hW5]; clear hW5; go_simp
        have g1 : W5.cell? ⟨wx.heap.size, 1, none⟩ = some (.slice J h.js.length capJ) := by rw [← hW5]; clear hW5; go_simp
        have g2 : W5.cell? ⟨wx.heap.size, 2, none⟩ = some (.int .i64 h.slo) := by rw [← hW5]; clear hW5; go_simp
        have g3 : W5.cell? ⟨wx.heap.size, 3, none⟩ = some (.int .i64 h.shi) := by rw [← hW5]; clear hW5; go_simp
        have g4 : W5.cell? ⟨wx.heap.size, 4, none⟩ = some (.int .i64 h.winch) := by rw [← hW5]; clear hW5; go_simp
        have gf : ∀ o, W5.frozen? ⟨wx.heap.size, o, none⟩ = false := fun o => by rw [← hW5]; clear hW5; go_simp
        have HB5 := Lib.hid (belowT HBX2.out hb5)
        have HB5R := Lib.hid (belowT HBXR.out hb5)
        have hrp := HH.out.ps.below HB5.out hBz
        have hnews := rdN_news (hrp.below (belowA (belowR W5) (.cells #[] 67)) (Nat.le_trans hBz HB5.out.size))
        have hlit : (W5.alloc (.cells #[] 67)).ownsRow W5.heap.size 67 3 (.slice (some ⟨W5.heap.size, 0, none⟩) 0 0) 0 [] := World.ownsRow_lit W5 #[] 0 (Nat.le_refl _) (Nat.zero_le _) rfl
        obtain ⟨r0, r1, r2, r3, r4⟩ := HKB.out _ HB5.out
        have hlt5 := lt_of_cell r0
        have HNEWS := Lib.hid hnews
        have HLIT := Lib.hid hlit
        clear hb5 hrp hnews hlit
        go_wp2_with (at_builtin; refine wpList_append_own _ rfl _ _ 22 rfl W5.heap.size 67 i67 (.agg #[.string ⟨#[]⟩, .int .i64 0, .int .i64 0]) 3 32 Try.underlying22 hi67 hz670 hz671 hz672 rfl (by decide) _ _ _ rfl HLIT.out ⟨bp, op, none⟩ h.ps.length cap (h.ps.flatMap encPrt) rfl (encPrt_len3 _) ?c1 ?c2 ?c3 ?c4 (by simp) ?_)
        case c1 => first | exact HNEWS.out | (intro j u hu; have := HNEWS.out j u hu; rw [addr_add] at this; exact this)
        case c2 => first | exact encPrt_one _ | (intro u p hp hu; exact encPrt_one h.ps u (List.mem_flatMap.2 ⟨p, hp, hu⟩))
        case c3 => unfold maxLen; omega
        case c4 => omega
        intro v' w6 hown6 hgrow _
        have hB6 : Below W5.heap.size W5 w6 := grownB HLIT.out hgrow (Nat.le_refl _) (belowA (belowR _) _)
        have hown6' : w6.ownsRow W5.heap.size 67 3 v' h.ps.length (h.ps.flatMap encPrt) := by simpa using hown6
        obtain ⟨g6, cp6, rfl, hgb6, hgl6, hgc6⟩ := own_form hown6' hn1
        have hm6 : cp6 ≤ maxLen := by
          obtain ⟨_, _, hv6, _, _, _, hm⟩ := own_rdN (encs := encPrt) (xs := h.ps) (fun _ => rfl) hown6'
          injection hv6 with _ _ hv6
          rw [hv6]; exact hm
        have hrd6 : RdN 3 encPrt w6 w6.heap.size (some ⟨g6, 0, none⟩) h.ps := by
          obtain ⟨A9, _, hv6, hR, _⟩ := own_rdN (encs := encPrt) (xs := h.ps) (fun _ => rfl) hown6'
          injection hv6 with hv6
          rw [hv6]; exact hR
        have g0 := keepC hB6 g0
        have g1 := keepC hB6 g1
        have g2 := keepC hB6 g2
        have g3 := keepC hB6 g3
        have g4 := keepC hB6 g4
        have gf6 : w6.frozen? ⟨wx.heap.size, 0, none⟩ = false := (World.frozen?_of_block (w := W5) (a := ⟨wx.heap.size, 0, none⟩) (hB6.block _ hz5)).trans (gf 0)
        have hfz6 := fun o => hown6'.frozenAt o
        have HRD6 := Lib.hid hrd6
        have HFZ6 := Lib.hid hfz6
        have HB6 := Lib.hid (belowT HB5.out hB6)
        have HB6R := Lib.hid (belowT HB5R.out hB6)
        have HM6 := Lib.hid hm6
        have hz6 := hB6.size
        clear hgrow hown6 hown6' hB6 hrd6 hfz6 hm6 gf HNEWS HLIT hW5 p0 p1 p2 p3 p4 r0 r1 r2 r3 r4
        go_upto_region 17 with fail
        obtain ⟨W7, hW7⟩ : ∃ W7, w6.setCell ⟨wx.heap.size, 0, none⟩ (.slice (some ⟨g6, 0, none⟩) h.ps.length cp6) = W7 := ⟨_, rfl⟩
        have hne6 : g6 ≠ wx.heap.size := by omega
        have f0 : W7.cell? ⟨wx.heap.size, 0, none⟩ = some (.slice (some ⟨g6, 0, none⟩) h.ps.length cp6) := by rw [← hW7]; exact World.cell?_setCell_same _ _ _ g0
        have f1 : W7.cell? ⟨wx.heap.size, 1, none⟩ = some (.slice J h.js.length capJ) := by rw [← hW7]; exact (World.cell?_setCell_other _ _ _ _ (by simp)).trans g1
        have f2 : W7.cell? ⟨wx.heap.size, 2, none⟩ = some (.int .i64 h.slo) := by rw [← hW7]; exact (World.cell?_setCell_other _ _ _ _ (by simp)).trans g2
        have f3 : W7.cell? ⟨wx.heap.size, 3, none⟩ = some (.int .i64 h.shi) := by rw [← hW7]; exact (World.cell?_setCell_other _ _ _ _ (by simp)).trans g3
        have f4 : W7.cell? ⟨wx.heap.size, 4, none⟩ = some (.int .i64 h.winch) := by rw [← hW7]; exact (World.cell?_setCell_other _ _ _ _ (by simp)).trans g4
        have hrd7 : RdN 3 encPrt W7 w6.heap.size (some ⟨g6, 0, none⟩) h.ps := fun j y hy => by
          obtain ⟨b9, o9, e9, hb9, hc9⟩ := HRD6.out j y hy
          injection e9 with e9
          injection e9 with e91 e92
          subst e91 e92
          exact ⟨_, _, rfl, hb9, fun q u hu => by rw [← hW7]; exact (World.cell?_setCell_other _ _ _ _ (fun e => by injection e with e _; exact hne6 e.symm)).trans (hc9 q u hu)⟩
        have hfz7 : ∀ o, W7.frozen? ⟨g6, o, none⟩ = false := fun o => by rw [← hW7, World.frozen?_setCell]; exact HFZ6.out o
        have HB7 : Hid (Below W2.heap.size W2 W7) := Lib.hid (by rw [← hW7]; exact belowS HB6.out HZX2.out _)
        have HB7R : Hid (Below (w4.drewN nq).heap.size (w4.drewN nq) W7) := Lib.hid (by rw [← hW7]; exact belowS HB6R.out HZXR.out _)
        have hz7 : W7.heap.size = w6.heap.size := by rw [← hW7]; simp
        rw [hW7]
        have hgl7 : g6 < W7.heap.size := by omega
        obtain ⟨b9, o9, e9, _, k0, k1, k2⟩ := prtAt hrd7 HX.out
        injection e9 with e9
        injection e9 with e91 e92
        subst e91 e92
        have HK17 : Hid (∀ W, Below W7.heap.size W7 W → W.cell? ⟨wx.heap.size, 0, none⟩ = some (.slice (some ⟨g6, 0, none⟩) h.ps.length cp6)) := Lib.hid fun W hb => keepC hb f0
        have HFZ7 := Lib.hid hfz7
        have HRD7 := Lib.hid (hrd7.more (Nat.le_of_eq hz7.symm))
        have hpc := fun V => span_any X X V
        have HPC := Lib.hid hpc
        have HKf : Hid (∀ W, Below W7.heap.size W7 W → W.cell? ⟨wx.heap.size, 1, none⟩ = some (.slice J h.js.length capJ) ∧ W.cell? ⟨wx.heap.size, 2, none⟩ = some (.int .i64 h.slo) ∧ W.cell? ⟨wx.heap.size, 3, none⟩ = some (.int .i64 h.shi) ∧ W.cell? ⟨wx.heap.size, 4, none⟩ = some (.int .i64 h.winch)) := Lib.hid fun W hb => ⟨keepC hb f1, keepC hb f2, keepC hb f3, keepC hb f4⟩
        clear hW7 hrd7 hfz7 hz7 hpc g0 g1 g2 g3 g4 gf6 f1 f2 f3 f4 HRD6 HFZ6 HB6 HB6R HB5 HB5R
        have HBD := Lib.hid (belowDq (belowR W7))
        go_region_held3 (fun W => W.cell? ⟨wx.heap.size, 0, none⟩ = some (.slice (some ⟨g6, 0, none⟩) h.ps.length cp6)) (first | exact HK17.out _ HBD.out | exact HK17.out _ HB8.out | exact keepSet (keepSet (HK17.out _ HB8.out) (Ne.symm hne6)) (Ne.symm hne6)) ((go_at_call 38; ((with_reducible refine (HPC.out _).mono ?_); rintro e w8 ⟨rfl, hb8⟩; have HB8 := Lib.hid (belowT HBD.out hb8); have m1 := keepC HB8.out k1; have m2 := keepC HB8.out k2; have n1 : w8.frozen? ⟨g6, 0 + i * 3 + 1, none⟩ = false := (World.frozen?_of_block (w := W7) (a := ⟨g6, 0 + i * 3 + 1, none⟩) (HB8.out.block _ hgl7)).trans (HFZ7.out _); have n2 : w8.frozen? ⟨g6, 0 + i * 3 + 2, none⟩ = false := (World.frozen?_of_block (w := W7) (a := ⟨g6, 0 + i * 3 + 2, none⟩) (HB8.out.block _ hgl7)).trans (HFZ7.out _); rw [Nat.zero_add] at m1 m2 n1 n2; clear hb8)))
        obtain ⟨W9, hW9⟩ : ∃ W9, ((w8.setCell ⟨g6, i * 3 + 1, none⟩ (.int .i64 X)).setCell ⟨g6, i * 3 + 1 + 1, none⟩ (.int .i64 X)) = W9 := ⟨_, rfl⟩
        have HB87R := Lib.hid (belowT HB7R.out HB8.out)
        have HB87 := Lib.hid (belowT HB7.out HB8.out)
        have hg2 : W2.heap.size ≤ g6 := by have := HZX2.out; omega
        have hgR : (w4.drewN nq).heap.size ≤ g6 := by have := HZXR.out; omega
        have HB9 : Hid (Below W2.heap.size W2 W9) := Lib.hid (by rw [← hW9]; exact belowS (belowS HB87.out hg2 _) hg2 _)
        have HB9R : Hid (Below (w4.drewN nq).heap.size (w4.drewN nq) W9) := Lib.hid (by rw [← hW9]; exact belowS (belowS HB87R.out hgR _) hgR _)
        have hz9 : W9.heap.size = w8.heap.size := by rw [← hW9]; simp
        have hrd9 : RdN 3 encPrt W9 W9.heap.size (some ⟨g6, 0, none⟩) (fixedPs h.ps i X) := by
          have := prts_set (i := i) (HRD7.out.below HB8.out (Nat.le_refl _)) X
          rw [← hW9]
          exact this.more (by simp; exact HB8.out.size)
        obtain ⟨l1, l2, l3, l4⟩ := HKf.out _ HB8.out
        have l0 := HK17.out _ HB8.out
        have l0 : W9.cell? ⟨wx.heap.size, 0, none⟩ = some (.slice (some ⟨g6, 0, none⟩) h.ps.length cp6) := by rw [← hW9]; exact keepSet (keepSet l0 (Ne.symm hne6)) (Ne.symm hne6)
        have l1 : W9.cell? ⟨wx.heap.size, 1, none⟩ = some (.slice J h.js.length capJ) := by rw [← hW9]; exact keepSet (keepSet l1 (Ne.symm hne6)) (Ne.symm hne6)
        have l2 : W9.cell? ⟨wx.heap.size, 2, none⟩ = some (.int .i64 h.slo) := by rw [← hW9]; exact keepSet (keepSet l2 (Ne.symm hne6)) (Ne.symm hne6)
        have l3 : W9.cell? ⟨wx.heap.size, 3, none⟩ = some (.int .i64 h.shi) := by rw [← hW9]; exact keepSet (keepSet l3 (Ne.symm hne6)) (Ne.symm hne6)
        have l4 : W9.cell? ⟨wx.heap.size, 4, none⟩ = some (.int .i64 h.winch) := by rw [← hW9]; exact keepSet (keepSet l4 (Ne.symm hne6)) (Ne.symm hne6)
        have hzB : B ≤ W9.heap.size := Nat.le_trans hBz HB9.out.size
        have hHf : HulRd W9 W9.heap.size (withPs h (fixedPs h.ps i X)) (some ⟨g6, 0, none⟩) cp6 J capJ :=
          ⟨hrd9, (HH.out.js.below HB9.out hBz).more hzB, by simp only [fixedPs_len]; exact hgc6, HM6.out, HH.out.jl, HH.out.jm, fixed_names HNM.out i X⟩
        have hwt := weights_any (withPs h (fixedPs h.ps i X)) (some ⟨g6, 0, none⟩) J W9.heap.size cp6 capJ AL l capL W9 hHf ((HL.out.below HB9.out hBz).more hzB) HLC.out (Nat.le_refl _)
        have hhv : hv (withPs h (fixedPs h.ps i X)) (some ⟨g6, 0, none⟩) cp6 J capJ = .agg #[.slice (some ⟨g6, 0, none⟩) h.ps.length cp6, .slice J h.js.length capJ, .int .i64 h.slo, .int .i64 h.shi, .int .i64 h.winch] := by simp only [hv, fixedPs_len]
        rw [hhv] at hwt
        have HWT := Lib.hid hwt
        rw [hW9]
        clear hW9 hwt hhv hHf hrd9 hz9 hg2 hgR hzB HB8 HB87 HB87R HRD7 HFZ7 HPC HKf HK17 HBD m1 m2 n1 n2 k0 k1 k2 f0 x0 x1 x2 HB7 HB7R HM6
        go_wp2_with fail
        refine HWT.out.mono ?_
        rintro e w10 ⟨hb10, hcase⟩
        have HB10R := Lib.hid (belowT HB9R.out hb10)
        rw [HEO.out] at hcase
        clear hb10 HWT l0 l1 l2 l3 l4
        rcases hcase with ⟨hne, _⟩ | ⟨_, _, _, N9, A9, c9, _, rfl, _⟩
        · exact absurd rfl hne
        go_wp2_with fail
        go_roundw
        case rel => exact ⟨0 + 1, by omega, by go_num, HB10R⟩
        case measure => simp [intOf]
      | 1, _ =>
        go_upto_region 11 with fail
        refine reg9_11_1 hil hlb0 (by omega) hmb0 (by omega) hby0 hby1 s0 s1 ?_
        intro u0 u1 u2 u3 u4 u5 u6 u7 u8 u9 u10 u11 u12 u13 u14 u15 u16 u17 u18 u19 u20 u21 u22 u23 u24 u25 u26 u27 wx hbx
        have HBX2 := Lib.hid (belowT HBR2.out hbx)
        have HBXR := Lib.hid (belowT HBR.out hbx)
        have HZX2 := Lib.hid HBX2.out.size
        have HZXR := Lib.hid HBXR.out.size
        obtain ⟨p0, p1, p2, p3, p4⟩ := HKB.out _ HBX2.out
        obtain ⟨b9, o9, e9, _, x0, x1, x2⟩ := prtAt (HH.out.ps.below HBX2.out hBz) HX.out
        injection e9 with e9
        injection e9 with e91 e92
        subst e91 e92
        clear hbx s0 s1
        have hd1 : decide (hi < xlo) = false := by simp; omega
        have hd2 : decide (xhi < hi) = false := by simp; omega
        go_upto_region 15 with fail
        have hEo : openE (withPs h (fixedPs h.ps i (hi))) l = 0 := HYES.out hi (.inr rfl)
        obtain ⟨X, hXX⟩ : ∃ X, (hi : Int) = X := ⟨_, rfl⟩
        rw [hXX] at hEo ⊢
        have HEO := Lib.hid hEo
        clear hEo hXX hd1 hd2
        obtain ⟨W5, hW5⟩ : ∃ W5, wx.alloc (.cells #[.slice (some ⟨bp, op, none⟩) h.ps.length cap, .slice J h.js.length capJ, .int .i64 h.slo, .int .i64 h.shi, .int .i64 h.winch] 27) = W5 := ⟨_, rfl⟩
        have hb5 : Below wx.heap.size wx W5 := by rw [← hW5]; exact belowA (belowR _) _
        have hz5 : wx.heap.size < W5.heap.size := by rw [← hW5]; simp
        have g0 : W5.cell? ⟨wx.heap.size, 0, none⟩ = some (.slice (some ⟨bp, op, none⟩) h.ps.length cap) := by rw [← hW5]; clear hW5; go_simp
        have g1 : W5.cell? ⟨wx.heap.size, 1, none⟩ = some (.slice J h.js.length capJ) := by rw [← hW5]; clear hW5; go_simp
        have g2 : W5.cell? ⟨wx.heap.size, 2, none⟩ = some (.int .i64 h.slo) := by rw [← hW5]; clear hW5; go_simp
        have g3 : W5.cell? ⟨wx.heap.size, 3, none⟩ = some (.int .i64 h.shi) := by rw [← hW5]; clear hW5; go_simp
        have g4 : W5.cell? ⟨wx.heap.size, 4, none⟩ = some (.int .i64 h.winch) := by rw [← hW5]; clear hW5; go_simp
        have gf : ∀ o, W5.frozen? ⟨wx.heap.size, o, none⟩ = false := fun o => by rw [← hW5]; clear hW5; go_simp
        have HB5 := Lib.hid (belowT HBX2.out hb5)
        have HB5R := Lib.hid (belowT HBXR.out hb5)
        have hrp := HH.out.ps.below HB5.out hBz
        have hnews := rdN_news (hrp.below (belowA (belowR W5) (.cells #[] 67)) (Nat.le_trans hBz HB5.out.size))
        have hlit : (W5.alloc (.cells #[] 67)).ownsRow W5.heap.size 67 3 (.slice (some ⟨W5.heap.size, 0, none⟩) 0 0) 0 [] := World.ownsRow_lit W5 #[] 0 (Nat.le_refl _) (Nat.zero_le _) rfl
        obtain ⟨r0, r1, r2, r3, r4⟩ := HKB.out _ HB5.out
        have hlt5 := lt_of_cell r0
        have HNEWS := Lib.hid hnews
        have HLIT := Lib.hid hlit
        clear hb5 hrp hnews hlit
        go_wp2_with (at_builtin; refine wpList_append_own _ rfl _ _ 22 rfl W5.heap.size 67 i67 (.agg #[.string ⟨#[]⟩, .int .i64 0, .int .i64 0]) 3 32 Try.underlying22 hi67 hz670 hz671 hz672 rfl (by decide) _ _ _ rfl HLIT.out ⟨bp, op, none⟩ h.ps.length cap (h.ps.flatMap encPrt) rfl (encPrt_len3 _) ?c1 ?c2 ?c3 ?c4 (by simp) ?_)
        case c1 => first | exact HNEWS.out | (intro j u hu; have := HNEWS.out j u hu; rw [addr_add] at this; exact this)
        case c2 => first | exact encPrt_one _ | (intro u p hp hu; exact encPrt_one h.ps u (List.mem_flatMap.2 ⟨p, hp, hu⟩))
        case c3 => unfold maxLen; omega
        case c4 => omega
        intro v' w6 hown6 hgrow _
        have hB6 : Below W5.heap.size W5 w6 := grownB HLIT.out hgrow (Nat.le_refl _) (belowA (belowR _) _)
        have hown6' : w6.ownsRow W5.heap.size 67 3 v' h.ps.length (h.ps.flatMap encPrt) := by simpa using hown6
        obtain ⟨g6, cp6, rfl, hgb6, hgl6, hgc6⟩ := own_form hown6' hn1
        have hm6 : cp6 ≤ maxLen := by
          obtain ⟨_, _, hv6, _, _, _, hm⟩ := own_rdN (encs := encPrt) (xs := h.ps) (fun _ => rfl) hown6'
          injection hv6 with _ _ hv6
          rw [hv6]; exact hm
        have hrd6 : RdN 3 encPrt w6 w6.heap.size (some ⟨g6, 0, none⟩) h.ps := by
          obtain ⟨A9, _, hv6, hR, _⟩ := own_rdN (encs := encPrt) (xs := h.ps) (fun _ => rfl) hown6'
          injection hv6 with hv6
          rw [hv6]; exact hR
        have g0 := keepC hB6 g0
        have g1 := keepC hB6 g1
        have g2 := keepC hB6 g2
        have g3 := keepC hB6 g3
        have g4 := keepC hB6 g4
        have gf6 : w6.frozen? ⟨wx.heap.size, 0, none⟩ = false := (World.frozen?_of_block (w := W5) (a := ⟨wx.heap.size, 0, none⟩) (hB6.block _ hz5)).trans (gf 0)
        have hfz6 := fun o => hown6'.frozenAt o
        have HRD6 := Lib.hid hrd6
        have HFZ6 := Lib.hid hfz6
        have HB6 := Lib.hid (belowT HB5.out hB6)
        have HB6R := Lib.hid (belowT HB5R.out hB6)
        have HM6 := Lib.hid hm6
        have hz6 := hB6.size
        clear hgrow hown6 hown6' hB6 hrd6 hfz6 hm6 gf HNEWS HLIT hW5 p0 p1 p2 p3 p4 r0 r1 r2 r3 r4
        go_upto_region 17 with fail
        obtain ⟨W7, hW7⟩ : ∃ W7, w6.setCell ⟨wx.heap.size, 0, none⟩ (.slice (some ⟨g6, 0, none⟩) h.ps.length cp6) = W7 := ⟨_, rfl⟩
        have hne6 : g6 ≠ wx.heap.size := by omega
        have f0 : W7.cell? ⟨wx.heap.size, 0, none⟩ = some (.slice (some ⟨g6, 0, none⟩) h.ps.length cp6) := by rw [← hW7]; exact World.cell?_setCell_same _ _ _ g0
        have f1 : W7.cell? ⟨wx.heap.size, 1, none⟩ = some (.slice J h.js.length capJ) := by rw [← hW7]; exact (World.cell?_setCell_other _ _ _ _ (by simp)).trans g1
        have f2 : W7.cell? ⟨wx.heap.size, 2, none⟩ = some (.int .i64 h.slo) := by rw [← hW7]; exact (World.cell?_setCell_other _ _ _ _ (by simp)).trans g2
        have f3 : W7.cell? ⟨wx.heap.size, 3, none⟩ = some (.int .i64 h.shi) := by rw [← hW7]; exact (World.cell?_setCell_other _ _ _ _ (by simp)).trans g3
        have f4 : W7.cell? ⟨wx.heap.size, 4, none⟩ = some (.int .i64 h.winch) := by rw [← hW7]; exact (World.cell?_setCell_other _ _ _ _ (by simp)).trans g4
        have hrd7 : RdN 3 encPrt W7 w6.heap.size (some ⟨g6, 0, none⟩) h.ps := fun j y hy => by
          obtain ⟨b9, o9, e9, hb9, hc9⟩ := HRD6.out j y hy
          injection e9 with e9
          injection e9 with e91 e92
          subst e91 e92
          exact ⟨_, _, rfl, hb9, fun q u hu => by rw [← hW7]; exact (World.cell?_setCell_other _ _ _ _ (fun e => by injection e with e _; exact hne6 e.symm)).trans (hc9 q u hu)⟩
        have hfz7 : ∀ o, W7.frozen? ⟨g6, o, none⟩ = false := fun o => by rw [← hW7, World.frozen?_setCell]; exact HFZ6.out o
        have HB7 : Hid (Below W2.heap.size W2 W7) := Lib.hid (by rw [← hW7]; exact belowS HB6.out HZX2.out _)
        have HB7R : Hid (Below (w4.drewN nq).heap.size (w4.drewN nq) W7) := Lib.hid (by rw [← hW7]; exact belowS HB6R.out HZXR.out _)
        have hz7 : W7.heap.size = w6.heap.size := by rw [← hW7]; simp
        rw [hW7]
        have hgl7 : g6 < W7.heap.size := by omega
        obtain ⟨b9, o9, e9, _, k0, k1, k2⟩ := prtAt hrd7 HX.out
        injection e9 with e9
        injection e9 with e91 e92
        subst e91 e92
        have HK17 : Hid (∀ W, Below W7.heap.size W7 W → W.cell? ⟨wx.heap.size, 0, none⟩ = some (.slice (some ⟨g6, 0, none⟩) h.ps.length cp6)) := Lib.hid fun W hb => keepC hb f0
        have HFZ7 := Lib.hid hfz7
        have HRD7 := Lib.hid (hrd7.more (Nat.le_of_eq hz7.symm))
        have hpc := fun V => span_any X X V
        have HPC := Lib.hid hpc
        have HKf : Hid (∀ W, Below W7.heap.size W7 W → W.cell? ⟨wx.heap.size, 1, none⟩ = some (.slice J h.js.length capJ) ∧ W.cell? ⟨wx.heap.size, 2, none⟩ = some (.int .i64 h.slo) ∧ W.cell? ⟨wx.heap.size, 3, none⟩ = some (.int .i64 h.shi) ∧ W.cell? ⟨wx.heap.size, 4, none⟩ = some (.int .i64 h.winch)) := Lib.hid fun W hb => ⟨keepC hb f1, keepC hb f2, keepC hb f3, keepC hb f4⟩
        clear hW7 hrd7 hfz7 hz7 hpc g0 g1 g2 g3 g4 gf6 f1 f2 f3 f4 HRD6 HFZ6 HB6 HB6R HB5 HB5R
        have HBD := Lib.hid (belowDq (belowR W7))
        go_region_held3 (fun W => W.cell? ⟨wx.heap.size, 0, none⟩ = some (.slice (some ⟨g6, 0, none⟩) h.ps.length cp6)) (first | exact HK17.out _ HBD.out | exact HK17.out _ HB8.out | exact keepSet (keepSet (HK17.out _ HB8.out) (Ne.symm hne6)) (Ne.symm hne6)) ((go_at_call 38; ((with_reducible refine (HPC.out _).mono ?_); rintro e w8 ⟨rfl, hb8⟩; have HB8 := Lib.hid (belowT HBD.out hb8); have m1 := keepC HB8.out k1; have m2 := keepC HB8.out k2; have n1 : w8.frozen? ⟨g6, 0 + i * 3 + 1, none⟩ = false := (World.frozen?_of_block (w := W7) (a := ⟨g6, 0 + i * 3 + 1, none⟩) (HB8.out.block _ hgl7)).trans (HFZ7.out _); have n2 : w8.frozen? ⟨g6, 0 + i * 3 + 2, none⟩ = false := (World.frozen?_of_block (w := W7) (a := ⟨g6, 0 + i * 3 + 2, none⟩) (HB8.out.block _ hgl7)).trans (HFZ7.out _); rw [Nat.zero_add] at m1 m2 n1 n2; clear hb8)))
        obtain ⟨W9, hW9⟩ : ∃ W9, ((w8.setCell ⟨g6, i * 3 + 1, none⟩ (.int .i64 X)).setCell ⟨g6, i * 3 + 1 + 1, none⟩ (.int .i64 X)) = W9 := ⟨_, rfl⟩
        have HB87R := Lib.hid (belowT HB7R.out HB8.out)
        have HB87 := Lib.hid (belowT HB7.out HB8.out)
        have hg2 : W2.heap.size ≤ g6 := by have := HZX2.out; omega
        have hgR : (w4.drewN nq).heap.size ≤ g6 := by have := HZXR.out; omega
        have HB9 : Hid (Below W2.heap.size W2 W9) := Lib.hid (by rw [← hW9]; exact belowS (belowS HB87.out hg2 _) hg2 _)
        have HB9R : Hid (Below (w4.drewN nq).heap.size (w4.drewN nq) W9) := Lib.hid (by rw [← hW9]; exact belowS (belowS HB87R.out hgR _) hgR _)
        have hz9 : W9.heap.size = w8.heap.size := by rw [← hW9]; simp
        have hrd9 : RdN 3 encPrt W9 W9.heap.size (some ⟨g6, 0, none⟩) (fixedPs h.ps i X) := by
          have := prts_set (i := i) (HRD7.out.below HB8.out (Nat.le_refl _)) X
          rw [← hW9]
          exact this.more (by simp; exact HB8.out.size)
        obtain ⟨l1, l2, l3, l4⟩ := HKf.out _ HB8.out
        have l0 := HK17.out _ HB8.out
        have l0 : W9.cell? ⟨wx.heap.size, 0, none⟩ = some (.slice (some ⟨g6, 0, none⟩) h.ps.length cp6) := by rw [← hW9]; exact keepSet (keepSet l0 (Ne.symm hne6)) (Ne.symm hne6)
        have l1 : W9.cell? ⟨wx.heap.size, 1, none⟩ = some (.slice J h.js.length capJ) := by rw [← hW9]; exact keepSet (keepSet l1 (Ne.symm hne6)) (Ne.symm hne6)
        have l2 : W9.cell? ⟨wx.heap.size, 2, none⟩ = some (.int .i64 h.slo) := by rw [← hW9]; exact keepSet (keepSet l2 (Ne.symm hne6)) (Ne.symm hne6)
        have l3 : W9.cell? ⟨wx.heap.size, 3, none⟩ = some (.int .i64 h.shi) := by rw [← hW9]; exact keepSet (keepSet l3 (Ne.symm hne6)) (Ne.symm hne6)
        have l4 : W9.cell? ⟨wx.heap.size, 4, none⟩ = some (.int .i64 h.winch) := by rw [← hW9]; exact keepSet (keepSet l4 (Ne.symm hne6)) (Ne.symm hne6)
        have hzB : B ≤ W9.heap.size := Nat.le_trans hBz HB9.out.size
        have hHf : HulRd W9 W9.heap.size (withPs h (fixedPs h.ps i X)) (some ⟨g6, 0, none⟩) cp6 J capJ :=
          ⟨hrd9, (HH.out.js.below HB9.out hBz).more hzB, by simp only [fixedPs_len]; exact hgc6, HM6.out, HH.out.jl, HH.out.jm, fixed_names HNM.out i X⟩
        have hwt := weights_any (withPs h (fixedPs h.ps i X)) (some ⟨g6, 0, none⟩) J W9.heap.size cp6 capJ AL l capL W9 hHf ((HL.out.below HB9.out hBz).more hzB) HLC.out (Nat.le_refl _)
        have hhv : hv (withPs h (fixedPs h.ps i X)) (some ⟨g6, 0, none⟩) cp6 J capJ = .agg #[.slice (some ⟨g6, 0, none⟩) h.ps.length cp6, .slice J h.js.length capJ, .int .i64 h.slo, .int .i64 h.shi, .int .i64 h.winch] := by simp only [hv, fixedPs_len]
        rw [hhv] at hwt
        have HWT := Lib.hid hwt
        rw [hW9]
        clear hW9 hwt hhv hHf hrd9 hz9 hg2 hgR hzB HB8 HB87 HB87R HRD7 HFZ7 HPC HKf HK17 HBD m1 m2 n1 n2 k0 k1 k2 f0 x0 x1 x2 HB7 HB7R HM6
        go_wp2_with fail
        refine HWT.out.mono ?_
        rintro e w10 ⟨hb10, hcase⟩
        have HB10R := Lib.hid (belowT HB9R.out hb10)
        rw [HEO.out] at hcase
        clear hb10 HWT l0 l1 l2 l3 l4
        rcases hcase with ⟨hne, _⟩ | ⟨_, _, _, N9, A9, c9, _, rfl, _⟩
        · exact absurd rfl hne
        go_wp2_with fail
        go_roundw
        case rel => exact ⟨1 + 1, by omega, by go_num, HB10R⟩
        case measure => simp [intOf]
      | 2, _ =>
        go_upto_region 11 with fail
        refine reg9_11_2 hil hlb0 (by omega) hmb0 (by omega) hby0 hby1 s0 s1 ?_
        intro u0 u1 u2 u3 u4 u5 u6 u7 u8 u9 u10 u11 u12 u13 u14 u15 u16 u17 u18 u19 u20 u21 u22 u23 u24 u25 u26 u27 wx hbx
        have HBX2 := Lib.hid (belowT HBR2.out hbx)
        have HBXR := Lib.hid (belowT HBR.out hbx)
        have HZX2 := Lib.hid HBX2.out.size
        have HZXR := Lib.hid HBXR.out.size
        obtain ⟨p0, p1, p2, p3, p4⟩ := HKB.out _ HBX2.out
        obtain ⟨b9, o9, e9, _, x0, x1, x2⟩ := prtAt (HH.out.ps.below HBX2.out hBz) HX.out
        injection e9 with e9
        injection e9 with e91 e92
        subst e91 e92
        clear hbx s0 s1
        have HBXR1 := HBXR
        by_cases hr1 : lo - byv < xlo
        · have hd1 : decide (lo - byv < xlo) = true := decide_eq_true hr1
          clear hr1
          go_wp2_with fail
          go_roundw
          case rel => exact ⟨2 + 1, by omega, by go_num, HBXR⟩
          case measure => simp [intOf]
        have hd1 : decide (lo - byv < xlo) = false := decide_eq_false hr1
        by_cases hr2 : xhi < lo - byv
        · have hd2 : decide (xhi < lo - byv) = true := decide_eq_true hr2
          clear hr1 hr2
          go_wp2_with fail
          go_roundw
          case rel => exact ⟨2 + 1, by omega, by go_num, HBXR⟩
          case measure => simp [intOf]
        have hd2 : decide (xhi < lo - byv) = false := decide_eq_false hr2
        have hby2 : 1 ≤ byv := by have := HBY.out; omega
        have hEX : openE (withPs h (fixedPs h.ps i (lo - byv))) l = 9 := HNO.out _ (by omega) (by omega) (by omega)
        clear hr1 hr2 hby2
        go_upto_region 15 with fail
        have hEo : openE (withPs h (fixedPs h.ps i (lo - byv))) l = 9 := hEX
        obtain ⟨X, hXX⟩ : ∃ X, (lo - byv : Int) = X := ⟨_, rfl⟩
        rw [hXX] at hEo ⊢
        have HEO := Lib.hid hEo
        clear hEo hXX hd1 hd2
        obtain ⟨W5, hW5⟩ : ∃ W5, wx.alloc (.cells #[.slice (some ⟨bp, op, none⟩) h.ps.length cap, .slice J h.js.length capJ, .int .i64 h.slo, .int .i64 h.shi, .int .i64 h.winch] 27) = W5 := ⟨_, rfl⟩
        have hb5 : Below wx.heap.size wx W5 := by rw [← hW5]; exact belowA (belowR _) _
        have hz5 : wx.heap.size < W5.heap.size := by rw [← hW5]; simp
        have g0 : W5.cell? ⟨wx.heap.size, 0, none⟩ = some (.slice (some ⟨bp, op, none⟩) h.ps.length cap) := by rw [← hW5]; clear hW5; go_simp
        have g1 : W5.cell? ⟨wx.heap.size, 1, none⟩ = some (.slice J h.js.length capJ) := by rw [← hW5]; clear hW5; go_simp
        have g2 : W5.cell? ⟨wx.heap.size, 2, none⟩ = some (.int .i64 h.slo) := by rw [← hW5]; clear hW5; go_simp
        have g3 : W5.cell? ⟨wx.heap.size, 3, none⟩ = some (.int .i64 h.shi) := by rw [← hW5]; clear hW5; go_simp
        have g4 : W5.cell? ⟨wx.heap.size, 4, none⟩ = some (.int .i64 h.winch) := by rw [← hW5]; clear hW5; go_simp
        have gf : ∀ o, W5.frozen? ⟨wx.heap.size, o, none⟩ = false := fun o => by rw [← hW5]; clear hW5; go_simp
        have HB5 := Lib.hid (belowT HBX2.out hb5)
        have HB5R := Lib.hid (belowT HBXR.out hb5)
        have hrp := HH.out.ps.below HB5.out hBz
        have hnews := rdN_news (hrp.below (belowA (belowR W5) (.cells #[] 67)) (Nat.le_trans hBz HB5.out.size))
        have hlit : (W5.alloc (.cells #[] 67)).ownsRow W5.heap.size 67 3 (.slice (some ⟨W5.heap.size, 0, none⟩) 0 0) 0 [] := World.ownsRow_lit W5 #[] 0 (Nat.le_refl _) (Nat.zero_le _) rfl
        obtain ⟨r0, r1, r2, r3, r4⟩ := HKB.out _ HB5.out
        have hlt5 := lt_of_cell r0
        have HNEWS := Lib.hid hnews
        have HLIT := Lib.hid hlit
        clear hb5 hrp hnews hlit
        go_wp2_with (at_builtin; refine wpList_append_own _ rfl _ _ 22 rfl W5.heap.size 67 i67 (.agg #[.string ⟨#[]⟩, .int .i64 0, .int .i64 0]) 3 32 Try.underlying22 hi67 hz670 hz671 hz672 rfl (by decide) _ _ _ rfl HLIT.out ⟨bp, op, none⟩ h.ps.length cap (h.ps.flatMap encPrt) rfl (encPrt_len3 _) ?c1 ?c2 ?c3 ?c4 (by simp) ?_)
        case c1 => first | exact HNEWS.out | (intro j u hu; have := HNEWS.out j u hu; rw [addr_add] at this; exact this)
        case c2 => first | exact encPrt_one _ | (intro u p hp hu; exact encPrt_one h.ps u (List.mem_flatMap.2 ⟨p, hp, hu⟩))
        case c3 => unfold maxLen; omega
        case c4 => omega
        intro v' w6 hown6 hgrow _
        have hB6 : Below W5.heap.size W5 w6 := grownB HLIT.out hgrow (Nat.le_refl _) (belowA (belowR _) _)
        have hown6' : w6.ownsRow W5.heap.size 67 3 v' h.ps.length (h.ps.flatMap encPrt) := by simpa using hown6
        obtain ⟨g6, cp6, rfl, hgb6, hgl6, hgc6⟩ := own_form hown6' hn1
        have hm6 : cp6 ≤ maxLen := by
          obtain ⟨_, _, hv6, _, _, _, hm⟩ := own_rdN (encs := encPrt) (xs := h.ps) (fun _ => rfl) hown6'
          injection hv6 with _ _ hv6
          rw [hv6]; exact hm
        have hrd6 : RdN 3 encPrt w6 w6.heap.size (some ⟨g6, 0, none⟩) h.ps := by
          obtain ⟨A9, _, hv6, hR, _⟩ := own_rdN (encs := encPrt) (xs := h.ps) (fun _ => rfl) hown6'
          injection hv6 with hv6
          rw [hv6]; exact hR
        have g0 := keepC hB6 g0
        have g1 := keepC hB6 g1
        have g2 := keepC hB6 g2
        have g3 := keepC hB6 g3
        have g4 := keepC hB6 g4
        have gf6 : w6.frozen? ⟨wx.heap.size, 0, none⟩ = false := (World.frozen?_of_block (w := W5) (a := ⟨wx.heap.size, 0, none⟩) (hB6.block _ hz5)).trans (gf 0)
        have hfz6 := fun o => hown6'.frozenAt o
        have HRD6 := Lib.hid hrd6
        have HFZ6 := Lib.hid hfz6
        have HB6 := Lib.hid (belowT HB5.out hB6)
        have HB6R := Lib.hid (belowT HB5R.out hB6)
        have HM6 := Lib.hid hm6
        have hz6 := hB6.size
        clear hgrow hown6 hown6' hB6 hrd6 hfz6 hm6 gf HNEWS HLIT hW5 p0 p1 p2 p3 p4 r0 r1 r2 r3 r4
        go_upto_region 17 with fail
        obtain ⟨W7, hW7⟩ : ∃ W7, w6.setCell ⟨wx.heap.size, 0, none⟩ (.slice (some ⟨g6, 0, none⟩) h.ps.length cp6) = W7 := ⟨_, rfl⟩
        have hne6 : g6 ≠ wx.heap.size := by omega
        have f0 : W7.cell? ⟨wx.heap.size, 0, none⟩ = some (.slice (some ⟨g6, 0, none⟩) h.ps.length cp6) := by rw [← hW7]; exact World.cell?_setCell_same _ _ _ g0
        have f1 : W7.cell? ⟨wx.heap.size, 1, none⟩ = some (.slice J h.js.length capJ) := by rw [← hW7]; exact (World.cell?_setCell_other _ _ _ _ (by simp)).trans g1
        have f2 : W7.cell? ⟨wx.heap.size, 2, none⟩ = some (.int .i64 h.slo) := by rw [← hW7]; exact (World.cell?_setCell_other _ _ _ _ (by simp)).trans g2
        have f3 : W7.cell? ⟨wx.heap.size, 3, none⟩ = some (.int .i64 h.shi) := by rw [← hW7]; exact (World.cell?_setCell_other _ _ _ _ (by simp)).trans g3
        have f4 : W7.cell? ⟨wx.heap.size, 4, none⟩ = some (.int .i64 h.winch) := by rw [← hW7]; exact (World.cell?_setCell_other _ _ _ _ (by simp)).trans g4
        have hrd7 : RdN 3 encPrt W7 w6.heap.size (some ⟨g6, 0, none⟩) h.ps := fun j y hy => by
          obtain ⟨b9, o9, e9, hb9, hc9⟩ := HRD6.out j y hy
          injection e9 with e9
          injection e9 with e91 e92
          subst e91 e92
          exact ⟨_, _, rfl, hb9, fun q u hu => by rw [← hW7]; exact (World.cell?_setCell_other _ _ _ _ (fun e => by injection e with e _; exact hne6 e.symm)).trans (hc9 q u hu)⟩
        have hfz7 : ∀ o, W7.frozen? ⟨g6, o, none⟩ = false := fun o => by rw [← hW7, World.frozen?_setCell]; exact HFZ6.out o
        have HB7 : Hid (Below W2.heap.size W2 W7) := Lib.hid (by rw [← hW7]; exact belowS HB6.out HZX2.out _)
        have HB7R : Hid (Below (w4.drewN nq).heap.size (w4.drewN nq) W7) := Lib.hid (by rw [← hW7]; exact belowS HB6R.out HZXR.out _)
        have hz7 : W7.heap.size = w6.heap.size := by rw [← hW7]; simp
        rw [hW7]
        have hgl7 : g6 < W7.heap.size := by omega
        obtain ⟨b9, o9, e9, _, k0, k1, k2⟩ := prtAt hrd7 HX.out
        injection e9 with e9
        injection e9 with e91 e92
        subst e91 e92
        have HK17 : Hid (∀ W, Below W7.heap.size W7 W → W.cell? ⟨wx.heap.size, 0, none⟩ = some (.slice (some ⟨g6, 0, none⟩) h.ps.length cp6)) := Lib.hid fun W hb => keepC hb f0
        have HFZ7 := Lib.hid hfz7
        have HRD7 := Lib.hid (hrd7.more (Nat.le_of_eq hz7.symm))
        have hpc := fun V => span_any X X V
        have HPC := Lib.hid hpc
        have HKf : Hid (∀ W, Below W7.heap.size W7 W → W.cell? ⟨wx.heap.size, 1, none⟩ = some (.slice J h.js.length capJ) ∧ W.cell? ⟨wx.heap.size, 2, none⟩ = some (.int .i64 h.slo) ∧ W.cell? ⟨wx.heap.size, 3, none⟩ = some (.int .i64 h.shi) ∧ W.cell? ⟨wx.heap.size, 4, none⟩ = some (.int .i64 h.winch)) := Lib.hid fun W hb => ⟨keepC hb f1, keepC hb f2, keepC hb f3, keepC hb f4⟩
        clear hW7 hrd7 hfz7 hz7 hpc g0 g1 g2 g3 g4 gf6 f1 f2 f3 f4 HRD6 HFZ6 HB6 HB6R HB5 HB5R
        have HBD := Lib.hid (belowDq (belowR W7))
        go_region_held3 (fun W => W.cell? ⟨wx.heap.size, 0, none⟩ = some (.slice (some ⟨g6, 0, none⟩) h.ps.length cp6)) (first | exact HK17.out _ HBD.out | exact HK17.out _ HB8.out | exact keepSet (keepSet (HK17.out _ HB8.out) (Ne.symm hne6)) (Ne.symm hne6)) ((go_at_call 38; ((with_reducible refine (HPC.out _).mono ?_); rintro e w8 ⟨rfl, hb8⟩; have HB8 := Lib.hid (belowT HBD.out hb8); have m1 := keepC HB8.out k1; have m2 := keepC HB8.out k2; have n1 : w8.frozen? ⟨g6, 0 + i * 3 + 1, none⟩ = false := (World.frozen?_of_block (w := W7) (a := ⟨g6, 0 + i * 3 + 1, none⟩) (HB8.out.block _ hgl7)).trans (HFZ7.out _); have n2 : w8.frozen? ⟨g6, 0 + i * 3 + 2, none⟩ = false := (World.frozen?_of_block (w := W7) (a := ⟨g6, 0 + i * 3 + 2, none⟩) (HB8.out.block _ hgl7)).trans (HFZ7.out _); rw [Nat.zero_add] at m1 m2 n1 n2; clear hb8)))
        obtain ⟨W9, hW9⟩ : ∃ W9, ((w8.setCell ⟨g6, i * 3 + 1, none⟩ (.int .i64 X)).setCell ⟨g6, i * 3 + 1 + 1, none⟩ (.int .i64 X)) = W9 := ⟨_, rfl⟩
        have HB87R := Lib.hid (belowT HB7R.out HB8.out)
        have HB87 := Lib.hid (belowT HB7.out HB8.out)
        have hg2 : W2.heap.size ≤ g6 := by have := HZX2.out; omega
        have hgR : (w4.drewN nq).heap.size ≤ g6 := by have := HZXR.out; omega
        have HB9 : Hid (Below W2.heap.size W2 W9) := Lib.hid (by rw [← hW9]; exact belowS (belowS HB87.out hg2 _) hg2 _)
        have HB9R : Hid (Below (w4.drewN nq).heap.size (w4.drewN nq) W9) := Lib.hid (by rw [← hW9]; exact belowS (belowS HB87R.out hgR _) hgR _)
        have hz9 : W9.heap.size = w8.heap.size := by rw [← hW9]; simp
        have hrd9 : RdN 3 encPrt W9 W9.heap.size (some ⟨g6, 0, none⟩) (fixedPs h.ps i X) := by
          have := prts_set (i := i) (HRD7.out.below HB8.out (Nat.le_refl _)) X
          rw [← hW9]
          exact this.more (by simp; exact HB8.out.size)
        obtain ⟨l1, l2, l3, l4⟩ := HKf.out _ HB8.out
        have l0 := HK17.out _ HB8.out
        have l0 : W9.cell? ⟨wx.heap.size, 0, none⟩ = some (.slice (some ⟨g6, 0, none⟩) h.ps.length cp6) := by rw [← hW9]; exact keepSet (keepSet l0 (Ne.symm hne6)) (Ne.symm hne6)
        have l1 : W9.cell? ⟨wx.heap.size, 1, none⟩ = some (.slice J h.js.length capJ) := by rw [← hW9]; exact keepSet (keepSet l1 (Ne.symm hne6)) (Ne.symm hne6)
        have l2 : W9.cell? ⟨wx.heap.size, 2, none⟩ = some (.int .i64 h.slo) := by rw [← hW9]; exact keepSet (keepSet l2 (Ne.symm hne6)) (Ne.symm hne6)
        have l3 : W9.cell? ⟨wx.heap.size, 3, none⟩ = some (.int .i64 h.shi) := by rw [← hW9]; exact keepSet (keepSet l3 (Ne.symm hne6)) (Ne.symm hne6)
        have l4 : W9.cell? ⟨wx.heap.size, 4, none⟩ = some (.int .i64 h.winch) := by rw [← hW9]; exact keepSet (keepSet l4 (Ne.symm hne6)) (Ne.symm hne6)
        have hzB : B ≤ W9.heap.size := Nat.le_trans hBz HB9.out.size
        have hHf : HulRd W9 W9.heap.size (withPs h (fixedPs h.ps i X)) (some ⟨g6, 0, none⟩) cp6 J capJ :=
          ⟨hrd9, (HH.out.js.below HB9.out hBz).more hzB, by simp only [fixedPs_len]; exact hgc6, HM6.out, HH.out.jl, HH.out.jm, fixed_names HNM.out i X⟩
        have hwt := weights_any (withPs h (fixedPs h.ps i X)) (some ⟨g6, 0, none⟩) J W9.heap.size cp6 capJ AL l capL W9 hHf ((HL.out.below HB9.out hBz).more hzB) HLC.out (Nat.le_refl _)
        have hhv : hv (withPs h (fixedPs h.ps i X)) (some ⟨g6, 0, none⟩) cp6 J capJ = .agg #[.slice (some ⟨g6, 0, none⟩) h.ps.length cp6, .slice J h.js.length capJ, .int .i64 h.slo, .int .i64 h.shi, .int .i64 h.winch] := by simp only [hv, fixedPs_len]
        rw [hhv] at hwt
        have HWT := Lib.hid hwt
        rw [hW9]
        clear hW9 hwt hhv hHf hrd9 hz9 hg2 hgR hzB HB8 HB87 HB87R HRD7 HFZ7 HPC HKf HK17 HBD m1 m2 n1 n2 k0 k1 k2 f0 x0 x1 x2 HB7 HB7R HM6
        go_wp2_with fail
        refine HWT.out.mono ?_
        rintro e w10 ⟨hb10, hcase⟩
        have HB10R := Lib.hid (belowT HB9R.out hb10)
        rw [HEO.out] at hcase
        clear hb10 HWT l0 l1 l2 l3 l4
        rcases hcase with ⟨_, rfl⟩ | ⟨h0, _⟩
        case inr => exact absurd h0 (by decide)
        go_wp2_with fail
        go_roundw
        case rel => exact ⟨2 + 1, by omega, by go_num, HB10R⟩
        case measure => simp [intOf]
      | 3, _ =>
        go_upto_region 11 with fail
        refine reg9_11_3 hil hlb0 (by omega) hmb0 (by omega) hby0 hby1 s0 s1 ?_
        intro u0 u1 u2 u3 u4 u5 u6 u7 u8 u9 u10 u11 u12 u13 u14 u15 u16 u17 u18 u19 u20 u21 u22 u23 u24 u25 u26 u27 wx hbx
        have HBX2 := Lib.hid (belowT HBR2.out hbx)
        have HBXR := Lib.hid (belowT HBR.out hbx)
        have HZX2 := Lib.hid HBX2.out.size
        have HZXR := Lib.hid HBXR.out.size
        obtain ⟨p0, p1, p2, p3, p4⟩ := HKB.out _ HBX2.out
        obtain ⟨b9, o9, e9, _, x0, x1, x2⟩ := prtAt (HH.out.ps.below HBX2.out hBz) HX.out
        injection e9 with e9
        injection e9 with e91 e92
        subst e91 e92
        clear hbx s0 s1
        have HBXR1 := HBXR
        by_cases hr1 : hi + byv < xlo
        · have hd1 : decide (hi + byv < xlo) = true := decide_eq_true hr1
          clear hr1
          go_wp2_with fail
          go_roundw
          case rel => exact ⟨3 + 1, by omega, by go_num, HBXR⟩
          case measure => simp [intOf]
        have hd1 : decide (hi + byv < xlo) = false := decide_eq_false hr1
        by_cases hr2 : xhi < hi + byv
        · have hd2 : decide (xhi < hi + byv) = true := decide_eq_true hr2
          clear hr1 hr2
          go_wp2_with fail
          go_roundw
          case rel => exact ⟨3 + 1, by omega, by go_num, HBXR⟩
          case measure => simp [intOf]
        have hd2 : decide (xhi < hi + byv) = false := decide_eq_false hr2
        have hby2 : 1 ≤ byv := by have := HBY.out; omega
        have hEX : openE (withPs h (fixedPs h.ps i (hi + byv))) l = 9 := HNO.out _ (by omega) (by omega) (by omega)
        clear hr1 hr2 hby2
        go_upto_region 15 with fail
        have hEo : openE (withPs h (fixedPs h.ps i (hi + byv))) l = 9 := hEX
        obtain ⟨X, hXX⟩ : ∃ X, (hi + byv : Int) = X := ⟨_, rfl⟩
        rw [hXX] at hEo ⊢
        have HEO := Lib.hid hEo
        clear hEo hXX hd1 hd2
        obtain ⟨W5, hW5⟩ : ∃ W5, wx.alloc (.cells #[.slice (some ⟨bp, op, none⟩) h.ps.length cap, .slice J h.js.length capJ, .int .i64 h.slo, .int .i64 h.shi, .int .i64 h.winch] 27) = W5 := ⟨_, rfl⟩
        have hb5 : Below wx.heap.size wx W5 := by rw [← hW5]; exact belowA (belowR _) _
        have hz5 : wx.heap.size < W5.heap.size := by rw [← hW5]; simp
        have g0 : W5.cell? ⟨wx.heap.size, 0, none⟩ = some (.slice (some ⟨bp, op, none⟩) h.ps.length cap) := by rw [← hW5]; clear hW5; go_simp
        have g1 : W5.cell? ⟨wx.heap.size, 1, none⟩ = some (.slice J h.js.length capJ) := by rw [← hW5]; clear hW5; go_simp
        have g2 : W5.cell? ⟨wx.heap.size, 2, none⟩ = some (.int .i64 h.slo) := by rw [← hW5]; clear hW5; go_simp
        have g3 : W5.cell? ⟨wx.heap.size, 3, none⟩ = some (.int .i64 h.shi) := by rw [← hW5]; clear hW5; go_simp
        have g4 : W5.cell? ⟨wx.heap.size, 4, none⟩ = some (.int .i64 h.winch) := by rw [← hW5]; clear hW5; go_simp
        have gf : ∀ o, W5.frozen? ⟨wx.heap.size, o, none⟩ = false := fun o => by rw [← hW5]; clear hW5; go_simp
        have HB5 := Lib.hid (belowT HBX2.out hb5)
        have HB5R := Lib.hid (belowT HBXR.out hb5)
        have hrp := HH.out.ps.below HB5.out hBz
        have hnews := rdN_news (hrp.below (belowA (belowR W5) (.cells #[] 67)) (Nat.le_trans hBz HB5.out.size))
        have hlit : (W5.alloc (.cells #[] 67)).ownsRow W5.heap.size 67 3 (.slice (some ⟨W5.heap.size, 0, none⟩) 0 0) 0 [] := World.ownsRow_lit W5 #[] 0 (Nat.le_refl _) (Nat.zero_le _) rfl
        obtain ⟨r0, r1, r2, r3, r4⟩ := HKB.out _ HB5.out
        have hlt5 := lt_of_cell r0
        have HNEWS := Lib.hid hnews
        have HLIT := Lib.hid hlit
        clear hb5 hrp hnews hlit
        go_wp2_with (at_builtin; refine wpList_append_own _ rfl _ _ 22 rfl W5.heap.size 67 i67 (.agg #[.string ⟨#[]⟩, .int .i64 0, .int .i64 0]) 3 32 Try.underlying22 hi67 hz670 hz671 hz672 rfl (by decide) _ _ _ rfl HLIT.out ⟨bp, op, none⟩ h.ps.length cap (h.ps.flatMap encPrt) rfl (encPrt_len3 _) ?c1 ?c2 ?c3 ?c4 (by simp) ?_)
        case c1 => first | exact HNEWS.out | (intro j u hu; have := HNEWS.out j u hu; rw [addr_add] at this; exact this)
        case c2 => first | exact encPrt_one _ | (intro u p hp hu; exact encPrt_one h.ps u (List.mem_flatMap.2 ⟨p, hp, hu⟩))
        case c3 => unfold maxLen; omega
        case c4 => omega
        intro v' w6 hown6 hgrow _
        have hB6 : Below W5.heap.size W5 w6 := grownB HLIT.out hgrow (Nat.le_refl _) (belowA (belowR _) _)
        have hown6' : w6.ownsRow W5.heap.size 67 3 v' h.ps.length (h.ps.flatMap encPrt) := by simpa using hown6
        obtain ⟨g6, cp6, rfl, hgb6, hgl6, hgc6⟩ := own_form hown6' hn1
        have hm6 : cp6 ≤ maxLen := by
          obtain ⟨_, _, hv6, _, _, _, hm⟩ := own_rdN (encs := encPrt) (xs := h.ps) (fun _ => rfl) hown6'
          injection hv6 with _ _ hv6
          rw [hv6]; exact hm
        have hrd6 : RdN 3 encPrt w6 w6.heap.size (some ⟨g6, 0, none⟩) h.ps := by
          obtain ⟨A9, _, hv6, hR, _⟩ := own_rdN (encs := encPrt) (xs := h.ps) (fun _ => rfl) hown6'
          injection hv6 with hv6
          rw [hv6]; exact hR
        have g0 := keepC hB6 g0
        have g1 := keepC hB6 g1
        have g2 := keepC hB6 g2
        have g3 := keepC hB6 g3
        have g4 := keepC hB6 g4
        have gf6 : w6.frozen? ⟨wx.heap.size, 0, none⟩ = false := (World.frozen?_of_block (w := W5) (a := ⟨wx.heap.size, 0, none⟩) (hB6.block _ hz5)).trans (gf 0)
        have hfz6 := fun o => hown6'.frozenAt o
        have HRD6 := Lib.hid hrd6
        have HFZ6 := Lib.hid hfz6
        have HB6 := Lib.hid (belowT HB5.out hB6)
        have HB6R := Lib.hid (belowT HB5R.out hB6)
        have HM6 := Lib.hid hm6
        have hz6 := hB6.size
        clear hgrow hown6 hown6' hB6 hrd6 hfz6 hm6 gf HNEWS HLIT hW5 p0 p1 p2 p3 p4 r0 r1 r2 r3 r4
        go_upto_region 17 with fail
        obtain ⟨W7, hW7⟩ : ∃ W7, w6.setCell ⟨wx.heap.size, 0, none⟩ (.slice (some ⟨g6, 0, none⟩) h.ps.length cp6) = W7 := ⟨_, rfl⟩
        have hne6 : g6 ≠ wx.heap.size := by omega
        have f0 : W7.cell? ⟨wx.heap.size, 0, none⟩ = some (.slice (some ⟨g6, 0, none⟩) h.ps.length cp6) := by rw [← hW7]; exact World.cell?_setCell_same _ _ _ g0
        have f1 : W7.cell? ⟨wx.heap.size, 1, none⟩ = some (.slice J h.js.length capJ) := by rw [← hW7]; exact (World.cell?_setCell_other _ _ _ _ (by simp)).trans g1
        have f2 : W7.cell? ⟨wx.heap.size, 2, none⟩ = some (.int .i64 h.slo) := by rw [← hW7]; exact (World.cell?_setCell_other _ _ _ _ (by simp)).trans g2
        have f3 : W7.cell? ⟨wx.heap.size, 3, none⟩ = some (.int .i64 h.shi) := by rw [← hW7]; exact (World.cell?_setCell_other _ _ _ _ (by simp)).trans g3
        have f4 : W7.cell? ⟨wx.heap.size, 4, none⟩ = some (.int .i64 h.winch) := by rw [← hW7]; exact (World.cell?_setCell_other _ _ _ _ (by simp)).trans g4
        have hrd7 : RdN 3 encPrt W7 w6.heap.size (some ⟨g6, 0, none⟩) h.ps := fun j y hy => by
          obtain ⟨b9, o9, e9, hb9, hc9⟩ := HRD6.out j y hy
          injection e9 with e9
          injection e9 with e91 e92
          subst e91 e92
          exact ⟨_, _, rfl, hb9, fun q u hu => by rw [← hW7]; exact (World.cell?_setCell_other _ _ _ _ (fun e => by injection e with e _; exact hne6 e.symm)).trans (hc9 q u hu)⟩
        have hfz7 : ∀ o, W7.frozen? ⟨g6, o, none⟩ = false := fun o => by rw [← hW7, World.frozen?_setCell]; exact HFZ6.out o
        have HB7 : Hid (Below W2.heap.size W2 W7) := Lib.hid (by rw [← hW7]; exact belowS HB6.out HZX2.out _)
        have HB7R : Hid (Below (w4.drewN nq).heap.size (w4.drewN nq) W7) := Lib.hid (by rw [← hW7]; exact belowS HB6R.out HZXR.out _)
        have hz7 : W7.heap.size = w6.heap.size := by rw [← hW7]; simp
        rw [hW7]
        have hgl7 : g6 < W7.heap.size := by omega
        obtain ⟨b9, o9, e9, _, k0, k1, k2⟩ := prtAt hrd7 HX.out
        injection e9 with e9
        injection e9 with e91 e92
        subst e91 e92
        have HK17 : Hid (∀ W, Below W7.heap.size W7 W → W.cell? ⟨wx.heap.size, 0, none⟩ = some (.slice (some ⟨g6, 0, none⟩) h.ps.length cp6)) := Lib.hid fun W hb => keepC hb f0
        have HFZ7 := Lib.hid hfz7
        have HRD7 := Lib.hid (hrd7.more (Nat.le_of_eq hz7.symm))
        have hpc := fun V => span_any X X V
        have HPC := Lib.hid hpc
        have HKf : Hid (∀ W, Below W7.heap.size W7 W → W.cell? ⟨wx.heap.size, 1, none⟩ = some (.slice J h.js.length capJ) ∧ W.cell? ⟨wx.heap.size, 2, none⟩ = some (.int .i64 h.slo) ∧ W.cell? ⟨wx.heap.size, 3, none⟩ = some (.int .i64 h.shi) ∧ W.cell? ⟨wx.heap.size, 4, none⟩ = some (.int .i64 h.winch)) := Lib.hid fun W hb => ⟨keepC hb f1, keepC hb f2, keepC hb f3, keepC hb f4⟩
        clear hW7 hrd7 hfz7 hz7 hpc g0 g1 g2 g3 g4 gf6 f1 f2 f3 f4 HRD6 HFZ6 HB6 HB6R HB5 HB5R
        have HBD := Lib.hid (belowDq (belowR W7))
        go_region_held3 (fun W => W.cell? ⟨wx.heap.size, 0, none⟩ = some (.slice (some ⟨g6, 0, none⟩) h.ps.length cp6)) (first | exact HK17.out _ HBD.out | exact HK17.out _ HB8.out | exact keepSet (keepSet (HK17.out _ HB8.out) (Ne.symm hne6)) (Ne.symm hne6)) ((go_at_call 38; ((with_reducible refine (HPC.out _).mono ?_); rintro e w8 ⟨rfl, hb8⟩; have HB8 := Lib.hid (belowT HBD.out hb8); have m1 := keepC HB8.out k1; have m2 := keepC HB8.out k2; have n1 : w8.frozen? ⟨g6, 0 + i * 3 + 1, none⟩ = false := (World.frozen?_of_block (w := W7) (a := ⟨g6, 0 + i * 3 + 1, none⟩) (HB8.out.block _ hgl7)).trans (HFZ7.out _); have n2 : w8.frozen? ⟨g6, 0 + i * 3 + 2, none⟩ = false := (World.frozen?_of_block (w := W7) (a := ⟨g6, 0 + i * 3 + 2, none⟩) (HB8.out.block _ hgl7)).trans (HFZ7.out _); rw [Nat.zero_add] at m1 m2 n1 n2; clear hb8)))
        obtain ⟨W9, hW9⟩ : ∃ W9, ((w8.setCell ⟨g6, i * 3 + 1, none⟩ (.int .i64 X)).setCell ⟨g6, i * 3 + 1 + 1, none⟩ (.int .i64 X)) = W9 := ⟨_, rfl⟩
        have HB87R := Lib.hid (belowT HB7R.out HB8.out)
        have HB87 := Lib.hid (belowT HB7.out HB8.out)
        have hg2 : W2.heap.size ≤ g6 := by have := HZX2.out; omega
        have hgR : (w4.drewN nq).heap.size ≤ g6 := by have := HZXR.out; omega
        have HB9 : Hid (Below W2.heap.size W2 W9) := Lib.hid (by rw [← hW9]; exact belowS (belowS HB87.out hg2 _) hg2 _)
        have HB9R : Hid (Below (w4.drewN nq).heap.size (w4.drewN nq) W9) := Lib.hid (by rw [← hW9]; exact belowS (belowS HB87R.out hgR _) hgR _)
        have hz9 : W9.heap.size = w8.heap.size := by rw [← hW9]; simp
        have hrd9 : RdN 3 encPrt W9 W9.heap.size (some ⟨g6, 0, none⟩) (fixedPs h.ps i X) := by
          have := prts_set (i := i) (HRD7.out.below HB8.out (Nat.le_refl _)) X
          rw [← hW9]
          exact this.more (by simp; exact HB8.out.size)
        obtain ⟨l1, l2, l3, l4⟩ := HKf.out _ HB8.out
        have l0 := HK17.out _ HB8.out
        have l0 : W9.cell? ⟨wx.heap.size, 0, none⟩ = some (.slice (some ⟨g6, 0, none⟩) h.ps.length cp6) := by rw [← hW9]; exact keepSet (keepSet l0 (Ne.symm hne6)) (Ne.symm hne6)
        have l1 : W9.cell? ⟨wx.heap.size, 1, none⟩ = some (.slice J h.js.length capJ) := by rw [← hW9]; exact keepSet (keepSet l1 (Ne.symm hne6)) (Ne.symm hne6)
        have l2 : W9.cell? ⟨wx.heap.size, 2, none⟩ = some (.int .i64 h.slo) := by rw [← hW9]; exact keepSet (keepSet l2 (Ne.symm hne6)) (Ne.symm hne6)
        have l3 : W9.cell? ⟨wx.heap.size, 3, none⟩ = some (.int .i64 h.shi) := by rw [← hW9]; exact keepSet (keepSet l3 (Ne.symm hne6)) (Ne.symm hne6)
        have l4 : W9.cell? ⟨wx.heap.size, 4, none⟩ = some (.int .i64 h.winch) := by rw [← hW9]; exact keepSet (keepSet l4 (Ne.symm hne6)) (Ne.symm hne6)
        have hzB : B ≤ W9.heap.size := Nat.le_trans hBz HB9.out.size
        have hHf : HulRd W9 W9.heap.size (withPs h (fixedPs h.ps i X)) (some ⟨g6, 0, none⟩) cp6 J capJ :=
          ⟨hrd9, (HH.out.js.below HB9.out hBz).more hzB, by simp only [fixedPs_len]; exact hgc6, HM6.out, HH.out.jl, HH.out.jm, fixed_names HNM.out i X⟩
        have hwt := weights_any (withPs h (fixedPs h.ps i X)) (some ⟨g6, 0, none⟩) J W9.heap.size cp6 capJ AL l capL W9 hHf ((HL.out.below HB9.out hBz).more hzB) HLC.out (Nat.le_refl _)
        have hhv : hv (withPs h (fixedPs h.ps i X)) (some ⟨g6, 0, none⟩) cp6 J capJ = .agg #[.slice (some ⟨g6, 0, none⟩) h.ps.length cp6, .slice J h.js.length capJ, .int .i64 h.slo, .int .i64 h.shi, .int .i64 h.winch] := by simp only [hv, fixedPs_len]
        rw [hhv] at hwt
        have HWT := Lib.hid hwt
        rw [hW9]
        clear hW9 hwt hhv hHf hrd9 hz9 hg2 hgR hzB HB8 HB87 HB87R HRD7 HFZ7 HPC HKf HK17 HBD m1 m2 n1 n2 k0 k1 k2 f0 x0 x1 x2 HB7 HB7R HM6
        go_wp2_with fail
        refine HWT.out.mono ?_
        rintro e w10 ⟨hb10, hcase⟩
        have HB10R := Lib.hid (belowT HB9R.out hb10)
        rw [HEO.out] at hcase
        clear hb10 HWT l0 l1 l2 l3 l4
        rcases hcase with ⟨_, rfl⟩ | ⟨h0, _⟩
        case inr => exact absurd h0 (by decide)
        go_wp2_with fail
        go_roundw
        case rel => exact ⟨3 + 1, by omega, by go_num, HB10R⟩
        case measure => simp [intOf]
      | 4, _ =>
        go_wp2_with (go_at_call 24; refine (HAW.out _).mono ?_; rintro e w5 ⟨rfl, hb5⟩; have HB5 := Lib.hid (belowT HBR2.out hb5); clear hb5)
        go_ret
        exact ⟨rfl, belowT HB0.out HB5.out⟩
end Go.Proofs.Ytojgdallodmanaa
