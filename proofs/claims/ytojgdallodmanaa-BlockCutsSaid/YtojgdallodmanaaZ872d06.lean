/- The reference's weighed. The reference's Most, least, Weighings. The reference's Weighings: it answers what block.open does. The laws' helpers: sets, hung. The laws' helpers: Truth, Told. -/
import Derived.Test.YtojgdallodmanaaZ4e1a07
namespace Go.Proofs.Ytojgdallodmanaa
open Go.RowKit

/-- The sets of the first i weighings are small numbers. -/
def SetsTo (l : List Wgh) (i : Nat) : Prop := ∀ (k : Nat) (y : Wgh), k < i → l[k]? = some y → ∃ s : Nat, y.set = (s : Int) ∧ s < 256
set_option maxRecDepth 100000 in
set_option maxHeartbeats 8000000 in
theorem refWeighed_any (h : Hul) (A J : Option Addr) (B cap capJ : Nat) (AL : Option Addr) (l : List Wgh) (capL i : Nat) (w : World) (hH : HulRd w B h A cap J capJ) (hn1 : 1 ≤ h.ps.length) (hn8 : h.ps.length ≤ 8) (hj : JsOk h.ps.length h.js) (hjl : h.js.length ≤ 12)
    (hL : RdN 3 encWgh w B AL l) (hl6 : l.length ≤ 6) (hi : i < l.length) (hs : SetsTo l i) (hB : B ≤ w.heap.size) :
    Calls Try.prog 92 #[hv h A cap J capJ, .slice AL l.length capL, .int .i64 i] w fun e w' => e = .returned (iv (weighedE h.ps.length h.js l i)) ∧ Below w.heap.size w w' := by
  obtain ⟨W1, hW1, hb0, hzz, p0, p1, p2, p3, p4⟩ := hulBox w h A cap J capJ
  obtain ⟨x, hx⟩ : ∃ x, l[i]? = some x := ⟨_, List.getElem?_eq_getElem hi⟩
  have hwe : weighedE h.ps.length h.js l i = if blockE h.ps.length h.js x.set = 0 then (if crossB (l.take i) x.set.toNat then 6 else rangeE 0 1000000 x.lo x.hi) else blockE h.ps.length h.js x.set := by unfold weighedE; rw [hx]
  obtain ⟨R, hR⟩ : ∃ R, weighedE h.ps.length h.js l i = R := ⟨_, rfl⟩
  rw [hR] at hwe ⊢
  obtain ⟨bl, ol, rfl, _, x0, x1, x2⟩ := wghAt (hL.below hb0 hB) hx
  have hbk := fun W (hb : Below W1.heap.size W1 W) => refBlock_any h A J B cap capJ x.set W (hH.below (belowT hb0 hb) hB) hn1 hn8 hj hjl (Nat.le_trans hB (Nat.le_trans hb0.size hb.size))
  have HBK := Lib.hid hbk
  have hE0 : blockE h.ps.length h.js x.set = 0 → ∃ s : Nat, s < 256 ∧ x.set = (s : Int) := fun h0 => by
    obtain ⟨s, a, _, _, b, _⟩ := blockE_zero hn8 h0
    exact ⟨s, a, b⟩
  obtain ⟨E, hE⟩ : ∃ E, blockE h.ps.length h.js x.set = E := ⟨_, rfl⟩
  rw [hE] at hwe HBK hE0
  have HL := Lib.hid (hL.below hb0 hB)
  have HB0 := Lib.hid hb0
  have HX := Lib.hid hx
  have HSS := Lib.hid hs
  have HWE := Lib.hid hwe
  have HE0 := Lib.hid hE0
  have HKX : Hid (∀ W, Below W1.heap.size W1 W → W.cell? ⟨bl, ol + i * 3, none⟩ = some (iv x.set) ∧ W.cell? ⟨bl, ol + i * 3 + 1, none⟩ = some (iv x.lo) ∧ W.cell? ⟨bl, ol + i * 3 + 2, none⟩ = some (iv x.hi)) := Lib.hid fun W hb => ⟨keepC hb x0, keepC hb x1, keepC hb x2⟩
  have HKB : Hid (∀ W, Below W1.heap.size W1 W → W.cell? ⟨w.heap.size, 0, none⟩ = some (.slice A h.ps.length cap) ∧ W.cell? ⟨w.heap.size, 1, none⟩ = some (.slice J h.js.length capJ) ∧ W.cell? ⟨w.heap.size, 2, none⟩ = some (.int .i64 h.slo) ∧ W.cell? ⟨w.heap.size, 3, none⟩ = some (.int .i64 h.shi) ∧ W.cell? ⟨w.heap.size, 4, none⟩ = some (.int .i64 h.winch)) := Lib.hid fun W hb => ⟨keepC hb p0, keepC hb p1, keepC hb p2, keepC hb p3, keepC hb p4⟩
  have hBz := Nat.le_trans hB hb0.size
  have hi0 : (0 : Int) ≤ (i : Int) := by omega
  have hil : (i : Int) < (l.length : Int) := by omega
  clear hzz hb0 hL hH hx hR hwe hE hbk hs hj hE0
  obtain ⟨xset, xlo, xhi⟩ := x
  simp only at x0 x1 x2 HBK HWE HE0 HKX
  go_enter Try.func92, Try.ntmps92
  go_wp2_with fail
  have HBD := Lib.hid (belowDq (belowR W1))
  go_region_held3 (fun W => W.cell? ⟨w.heap.size, 0, none⟩ = some (.slice A h.ps.length cap) ∧ W.cell? ⟨w.heap.size, 1, none⟩ = some (.slice J h.js.length capJ) ∧ W.cell? ⟨w.heap.size, 2, none⟩ = some (.int .i64 h.slo) ∧ W.cell? ⟨w.heap.size, 3, none⟩ = some (.int .i64 h.shi) ∧ W.cell? ⟨w.heap.size, 4, none⟩ = some (.int .i64 h.winch) ∧ W.cell? ⟨bl, ol + i * 3, none⟩ = some (iv xset)) (first | exact ⟨(HKB.out _ HBD.out).1, (HKB.out _ HBD.out).2.1, (HKB.out _ HBD.out).2.2.1, (HKB.out _ HBD.out).2.2.2.1, (HKB.out _ HBD.out).2.2.2.2, (HKX.out _ HBD.out).1⟩ | exact ⟨(HKB.out _ HB2.out).1, (HKB.out _ HB2.out).2.1, (HKB.out _ HB2.out).2.2.1, (HKB.out _ HB2.out).2.2.2.1, (HKB.out _ HB2.out).2.2.2.2, (HKX.out _ HB2.out).1⟩) ((go_at_call 110; ((with_reducible refine (HBK.out _ HBD.out).mono ?_); rintro e w2 ⟨rfl, hb2⟩; have HB2 := Lib.hid (belowT (HBD.out) hb2); clear hb2)))
  obtain ⟨w3, hw3⟩ : ∃ w3 : World, w3 = w2 := ⟨_, rfl⟩
  have HB3 : Hid (Below W1.heap.size W1 w3) := Lib.hid (by rw [hw3]; exact HB2.out)
  rw [← hw3]
  clear hw3 HBD HB2 x0 x1 x2 p0 p1 p2 p3 p4 hW1 HBK
  go_wp2_with fail
  go_loopw [7, 8] (fun vv vi wr => ∃ (k : Nat) (v : Int), k ≤ i ∧ vi = .int .i64 k ∧ vv = .int .i64 v ∧ Hid (v = if E = 0 then (if crossB (l.take k) xset.toNat then 6 else 0) else E) ∧ Hid (Below W1.heap.size W1 wr)) (fun _ vi _ => i - (intOf vi).toNat)
  case atStart => exact ⟨0, E, Nat.zero_le _, rfl, rfl, Lib.hid (by split; (rename_i h; rw [h]; simp [crossB]); rfl), HB3⟩
  case round =>
    obtain ⟨k, v, hk, rfl, rfl, HV, HBR⟩ := hrel
    obtain ⟨x0, x1, x2⟩ := HKX.out _ HBR.out
    by_cases hstop : k < i ∧ v = 0
    · obtain ⟨hlt, rfl⟩ := hstop
      have hv := HV.out
      by_cases hE : E = 0
      case neg => rw [if_neg hE] at hv; exact absurd hv.symm hE
      subst hE
      rw [if_pos rfl] at hv
      have hcf : crossB (l.take k) xset.toNat = false := by
        cases hc : crossB (l.take k) xset.toNat with
        | false => rfl
        | true => rw [hc] at hv; simp at hv
      obtain ⟨s, hs256, rfl⟩ := HE0.out rfl
      rw [Int.toNat_natCast] at hcf
      obtain ⟨y, hy⟩ : ∃ y, l[k]? = some y := ⟨_, List.getElem?_eq_getElem (by omega)⟩
      obtain ⟨b, hb1, hb256⟩ := HSS.out k y hlt hy
      obtain ⟨b9, o9, he9, _, y0, y1, y2⟩ := wghAt (HL.out.below HBR.out hBz) hy
      injection he9 with he9
      injection he9 with he91 he92
      subst he91 he92
      obtain ⟨yset, ylo, yhi⟩ := y
      simp only at hb1 y0 y1 y2
      subst hb1
      have hcm : ∀ n, Calls Try.prog 118 #[.int .i64 s, .int .i64 b] (wr.drewN n) fun e w' => e = .returned (iv (s &&& b : Nat)) ∧ w' = wr.drewN n := fun n => (common_any s b _ hs256 hb256).mono fun _ _ h => ⟨h.1, h.2.symm⟩
      obtain ⟨M, hM⟩ : ∃ M, s &&& b = M := ⟨_, rfl⟩
      rw [hM] at hcm
      have HM := Lib.hid hM
      have HCM := Lib.hid hcm
      have HCF := Lib.hid hcf
      have HY := Lib.hid hy
      have hk0 : (0 : Int) ≤ (k : Int) := by omega
      have hki : (k : Int) < (i : Int) := by omega
      have hkl : (k : Int) < (l.length : Int) := by omega
      have HSN : Hid (crossB (l.take (k + 1)) s = crossN s b) := Lib.hid (by rw [crossB_snoc _ _ _ _ HY.out, HCF.out, Int.toNat_natCast]; rfl)
      have HSC : Hid (crossN s b = (M != 0 && M != s && M != b)) := Lib.hid (by unfold crossN; rw [HM.out])
      clear hM hcm hcf hy hv HV
      have z0 := x0
      by_cases c1 : M = 0
      · subst c1
        have HCN : Hid (crossB (l.take (k + 1)) s = false) := Lib.hid (by rw [HSN.out, HSC.out]; rfl)
        go_wp2_with fail
        go_quiet ((go_at_call 118; exact Calls.quiet_of_same (HCM.out _)))
        go_wp2_with fail
        go_roundw
        case rel => exact ⟨k + 1, 0, by omega, by go_num, rfl, Lib.hid (by rw [Int.toNat_natCast, HCN.out]; rfl), Lib.hid (belowN HBR.out _)⟩
        case measure => simp [intOf]; omega
      have d1 : ((M : Int) == 0) = false := by simpa using c1
      have d1' : ((M : Int) != 0) = true := by simpa using c1
      by_cases c2 : M = s
      · have HCN : Hid (crossB (l.take (k + 1)) s = false) := Lib.hid (by rw [HSN.out, HSC.out, c2]; simp)
        have d2 : ((M : Int) == (s : Int)) = true := by rw [c2]; simp
        have d2' : ((M : Int) != (s : Int)) = false := by rw [c2]; simp
        clear c1 c2
        go_wp2_with fail
        go_quiet ((go_at_call 118; exact Calls.quiet_of_same (HCM.out _)))
        go_wp2_with fail
        go_roundw
        case rel => exact ⟨k + 1, 0, by omega, by go_num, rfl, Lib.hid (by rw [Int.toNat_natCast, HCN.out]; rfl), Lib.hid (belowN HBR.out _)⟩
        case measure => simp [intOf]; omega
      have d2 : ((M : Int) == (s : Int)) = false := by rw [beq_eq_false_iff_ne]; omega
      have d2' : ((M : Int) != (s : Int)) = true := by rw [bne_iff_ne]; omega
      by_cases c3 : M = b
      · have HCN : Hid (crossB (l.take (k + 1)) s = false) := Lib.hid (by rw [HSN.out, HSC.out, c3]; simp)
        have d3 : ((M : Int) == (b : Int)) = true := by rw [c3]; simp
        have d3' : ((M : Int) != (b : Int)) = false := by rw [c3]; simp
        clear c1 c2 c3
        go_wp2_with fail
        go_quiet ((go_at_call 118; exact Calls.quiet_of_same (HCM.out _)))
        go_wp2_with fail
        go_roundw
        case rel => exact ⟨k + 1, 0, by omega, by go_num, rfl, Lib.hid (by rw [Int.toNat_natCast, HCN.out]; rfl), Lib.hid (belowN HBR.out _)⟩
        case measure => simp [intOf]; omega
      have d3 : ((M : Int) == (b : Int)) = false := by rw [beq_eq_false_iff_ne]; omega
      have d3' : ((M : Int) != (b : Int)) = true := by rw [bne_iff_ne]; omega
      have HCN : Hid (crossB (l.take (k + 1)) s = true) := Lib.hid (by rw [HSN.out, HSC.out]; simp [c1, c2, c3])
      clear c1 c2 c3
      go_wp2_with fail
      go_quiet ((go_at_call 118; exact Calls.quiet_of_same (HCM.out _)))
      go_wp2_with fail
      go_roundw
      case rel => exact ⟨k + 1, 6, by omega, by go_num, rfl, Lib.hid (by rw [Int.toNat_natCast, HCN.out]; rfl), Lib.hid (belowN HBR.out _)⟩
      case measure => simp [intOf]; omega
    · have hfin : v = 0 → k = i := fun h0 => by
        by_cases hlt : k < i
        · exact absurd ⟨hlt, h0⟩ hstop
        · omega
      have hmono : crossB (l.take k) xset.toNat = true → crossB (l.take i) xset.toNat = true := fun h => crossB_mono h hk
      by_cases h0 : v = 0
      · subst h0
        obtain rfl := hfin rfl
        have hr : R = rangeE 0 1000000 xlo xhi := by
          have hv := HV.out
          have hwe := HWE.out
          by_cases hE : E = 0
          · rw [if_pos hE] at hv hwe
            cases hc : crossB (l.take k) xset.toNat with
            | true => rw [hc] at hv; simp at hv
            | false => rw [hc] at hwe; simpa using hwe
          · rw [if_neg hE] at hv
            exact absurd hv.symm hE
        have HR := Lib.hid hr
        clear hr hstop hfin hmono
        go_wp2_with fail
        refine (range_any 0 1000000 xlo xhi _).mono ?_
        rintro e w5 ⟨he, hb5⟩
        rw [← HR.out] at he
        subst he
        have HB5 := Lib.hid (belowT HBR.out hb5)
        clear hb5
        go_wp2_with fail
        go_ret
        exact ⟨rfl, belowT HB0.out HB5.out⟩
      · have hr : R = v := by
          have hv := HV.out
          have hwe := HWE.out
          by_cases hE : E = 0
          · rw [if_pos hE] at hv hwe
            cases hc : crossB (l.take k) xset.toNat with
            | true => rw [hc] at hv; rw [hmono hc] at hwe; simp at hv hwe; rw [hv, hwe]
            | false => rw [hc] at hv; simp at hv; exact absurd hv h0
          · rw [if_neg hE] at hv hwe
            rw [hv, hwe]
        subst hr
        have hne : (R == 0) = false := by simpa using h0
        clear hstop hfin hmono h0
        by_cases hlt : k < i
        · go_wp2_with fail
          go_ret
          exact ⟨rfl, belowT HB0.out HBR.out⟩
        · go_wp2_with fail
          go_ret
          exact ⟨rfl, belowT HB0.out HBR.out⟩
end Go.Proofs.Ytojgdallodmanaa

namespace Go.Proofs.Ytojgdallodmanaa
open Go.RowKit

/-- What Most answers: a row of its own, and whether all agree. -/
def MostRow (wt : Nat → Int) (b : Bool) (n : Nat) (w : World) (e : Ending) (w' : World) : Prop :=
  Below w.heap.size w w' ∧ ∃ g cap, e = .returned (.tuple #[.slice (some ⟨g, 0, none⟩) n cap, .bool b]) ∧ w'.ownsRow w.heap.size 3 1 (.slice (some ⟨g, 0, none⟩) n cap) n ((rowW wt n).map iv)

set_option maxRecDepth 100000 in
set_option maxHeartbeats 16000000 in
theorem most66_any (h : Hul) (A J : Option Addr) (B cap capJ : Nat) (AL : Option Addr) (l : List Wgh) (capL set : Nat) (w : World)
    (hH : HulRd w B h A cap J capJ) (hk : HulOk h) (hL : RdN 3 encWgh w B AL l) (hw : WghsOk h.ps.length l) (hf : set < 256) (hB : B ≤ w.heap.size) :
    Calls Try.prog 66 #[hv h A cap J capJ, .slice AL l.length capL, .int .i64 set] w (MostRow (mostW h l set) (agreesB l (mostW h l set)) h.ps.length w) := by
  obtain ⟨W1, hW1, hb0, hzz, p0, p1, p2, p3, p4⟩ := hulBox w h A cap J capJ
  have hn8 := hk.n8
  have hn1 := hk.n1
  have HKB : Hid (∀ W, Below W1.heap.size W1 W → W.cell? ⟨w.heap.size, 0, none⟩ = some (.slice A h.ps.length cap) ∧ W.cell? ⟨w.heap.size, 1, none⟩ = some (.slice J h.js.length capJ) ∧ W.cell? ⟨w.heap.size, 2, none⟩ = some (.int .i64 h.slo) ∧ W.cell? ⟨w.heap.size, 3, none⟩ = some (.int .i64 h.shi) ∧ W.cell? ⟨w.heap.size, 4, none⟩ = some (.int .i64 h.winch)) := Lib.hid fun W hb => ⟨keepC hb p0, keepC hb p1, keepC hb p2, keepC hb p3, keepC hb p4⟩
  have hBz : B ≤ W1.heap.size := Nat.le_trans hB hb0.size
  have hzW : w.heap.size ≤ W1.heap.size := hb0.size
  have hfc : ∀ V, Below W1.heap.size W1 V → Calls Try.prog 109 #[hv h A cap J capJ, .slice AL l.length capL, .int .i64 set] V (RowPost (filled h l set) h.ps.length V) := fun V hb => filled_any h A J B cap capJ AL l capL set V (hH.below (belowT hb0 hb) hB) hk (hL.below (belowT hb0 hb) hB) hw hf (Nat.le_trans hBz hb.size)
  have hfx : Box h (filled h l set) := filledTo_box hk.ps set _
  have hrc : ∀ V g c, Below W1.heap.size W1 V → Rd1 iv V V.heap.size (some ⟨g, 0, none⟩) (rowW (filled h l set) h.ps.length) → Calls Try.prog 108 #[hv h A cap J capJ, .slice AL l.length capL, .slice (some ⟨g, 0, none⟩) h.ps.length c, .int .i64 set, .int .i64 ((h.ps.length : Int) * 100000)] V (RowPost (mostW h l set) h.ps.length V) := fun V g c hb hr => raised_any h A J B cap capJ AL l capL _ _ c set _ V (hH.below (belowT hb0 hb) hB) hk (hL.below (belowT hb0 hb) hB) hw hr hfx hf (by omega) (by omega) (Nat.le_trans hBz hb.size)
  have hac : ∀ V g c, Below W1.heap.size W1 V → Rd1 iv V V.heap.size (some ⟨g, 0, none⟩) (rowW (mostW h l set) h.ps.length) → Calls Try.prog 94 #[.slice AL l.length capL, .slice (some ⟨g, 0, none⟩) h.ps.length c] V fun e w' => e = .returned (.bool (agreesB l (mostW h l set))) ∧ Below V.heap.size V w' := fun V g c hb hr => agrees_any AL l capL _ _ h.ps.length B c V hn8 (hL.below (belowT hb0 hb) hB) hw hr (box_wt hk.ps (mostW_box hk.ps set)) (Nat.le_trans hBz hb.size)
  have hwm : IntKind.i64.wrap ((h.ps.length : Int) * 100000) = (h.ps.length : Int) * 100000 := by rw [IntKind.wrap_i64]; omega
  have HFC := Lib.hid hfc
  have HRC := Lib.hid hrc
  have HAC := Lib.hid hac
  have HB0 := Lib.hid hb0
  obtain ⟨M, hM⟩ : ∃ M, mostW h l set = M := ⟨_, rfl⟩
  rw [hM] at HRC HAC ⊢
  obtain ⟨F, hF⟩ : ∃ F, filled h l set = F := ⟨_, rfl⟩
  rw [hF] at HFC HRC
  obtain ⟨AG, hAG⟩ : ∃ b, agreesB l M = b := ⟨_, rfl⟩
  rw [hAG] at HAC ⊢
  clear hfc hrc hac hb0 hH hL hw hk hfx hM hF hAG hzz
  go_enter Try.func66, Try.ntmps66
  go_wp2_with fail
  clear hW1 p0 p1 p2 p3 p4
  have HBD := Lib.hid (belowDq (belowR W1))
  go_region_held3 (fun W => W.cell? ⟨w.heap.size, 0, none⟩ = some (.slice A h.ps.length cap) ∧ W.cell? ⟨w.heap.size, 1, none⟩ = some (.slice J h.js.length capJ) ∧ W.cell? ⟨w.heap.size, 2, none⟩ = some (.int .i64 h.slo) ∧ W.cell? ⟨w.heap.size, 3, none⟩ = some (.int .i64 h.shi) ∧ W.cell? ⟨w.heap.size, 4, none⟩ = some (.int .i64 h.winch)) (first | exact HKB.out _ HBD.out | exact HKB.out _ HB2.out | exact HKB.out _ HB3.out) (((first | (go_at_call 109; ((with_reducible refine (HFC.out _ HBD.out).mono ?_); rintro e w2 ⟨hb2, g2, cap2, rfl, hown2⟩; have HB2 := Lib.hid (belowT HBD.out hb2); have HR2 := Lib.hid (row_rd hown2); clear hb2 hown2)) | (go_at_call 108; ((with_reducible refine (HRC.out _ g2 cap2 HB2.out HR2.out).mono ?_); rintro e w3 ⟨hb3, g3, cap3, rfl, hown3⟩; have HB3 := Lib.hid (belowT HB2.out hb3); have HO3 := Lib.hid (own_base hown3 (Nat.le_trans hzW HB2.out.size)); clear hb3 hown3)))))
  go_wp2_with fail
  refine (HAC.out _ _ _ HB3.out (row_rd HO3.out)).mono ?_
  rintro e w4 ⟨rfl, hb4⟩
  have HO4 := Lib.hid (own_below HO3.out hb4)
  have HB4 := Lib.hid (belowT HB3.out hb4)
  clear hb4
  go_wp2_with fail
  go_ret2
  exact ⟨belowT HB0.out HB4.out, g3, cap3, rfl, HO4.out⟩

set_option maxRecDepth 100000 in
set_option maxHeartbeats 16000000 in
theorem least67_any (h : Hul) (A J : Option Addr) (B cap capJ : Nat) (AL : Option Addr) (l : List Wgh) (capL set : Nat) (w : World)
    (hH : HulRd w B h A cap J capJ) (hk : HulOk h) (hL : RdN 3 encWgh w B AL l) (hw : WghsOk h.ps.length l) (hf : set < 2 ^ h.ps.length) (hB : B ≤ w.heap.size) :
    Calls Try.prog 67 #[hv h A cap J capJ, .slice AL l.length capL, .int .i64 set] w fun e w' => e = .returned (iv (leastRef h l set)) ∧ Below w.heap.size w w' := by
  obtain ⟨W1, hW1, hb0, hzz, p0, p1, p2, p3, p4⟩ := hulBox w h A cap J capJ
  have hn8 := hk.n8
  have hn1 := hk.n1
  have hpw : 2 ^ h.ps.length ≤ 256 := Nat.pow_le_pow_right (n := 2) (by decide) hn8
  have HKB : Hid (∀ W, Below W1.heap.size W1 W → W.cell? ⟨w.heap.size, 0, none⟩ = some (.slice A h.ps.length cap) ∧ W.cell? ⟨w.heap.size, 1, none⟩ = some (.slice J h.js.length capJ) ∧ W.cell? ⟨w.heap.size, 2, none⟩ = some (.int .i64 h.slo) ∧ W.cell? ⟨w.heap.size, 3, none⟩ = some (.int .i64 h.shi) ∧ W.cell? ⟨w.heap.size, 4, none⟩ = some (.int .i64 h.winch)) := Lib.hid fun W hb => ⟨keepC hb p0, keepC hb p1, keepC hb p2, keepC hb p3, keepC hb p4⟩
  have hBz : B ≤ W1.heap.size := Nat.le_trans hB hb0.size
  have hall : allN h = 2 ^ h.ps.length - 1 := rfl
  have hac : ∀ V, Calls Try.prog 93 #[hv h A cap J capJ] V fun e w' => e = .returned (iv (allN h : Nat)) ∧ Below V.heap.size V w' := fun V => all_any h A J cap capJ V hn8
  have hfc : ∀ V, Below W1.heap.size W1 V → Calls Try.prog 109 #[hv h A cap J capJ, .slice AL l.length capL, .int .i64 ((allN h - set : Nat) : Int)] V (RowPost (filled h l (allN h - set)) h.ps.length V) := fun V hb => filled_any h A J B cap capJ AL l capL (allN h - set) V (hH.below (belowT hb0 hb) hB) hk (hL.below (belowT hb0 hb) hB) hw (by omega) (Nat.le_trans hBz hb.size)
  have hsc : ∀ V g c, Rd1 iv V V.heap.size (some ⟨g, 0, none⟩) (rowW (filled h l (allN h - set)) h.ps.length) → Calls Try.prog 78 #[.slice (some ⟨g, 0, none⟩) h.ps.length c, .int .i64 set] V fun e w' => e = .returned (iv (leastRef h l set)) ∧ w' = V := fun V g c hr => sumS_any _ _ h.ps.length _ c set V hn8 hf hr (box_wt hk.ps (filledTo_box hk.ps _ _))
  obtain ⟨LR, hLR⟩ : ∃ x, leastRef h l set = x := ⟨_, rfl⟩
  rw [hLR] at hsc ⊢
  obtain ⟨F, hF⟩ : ∃ F, filled h l (allN h - set) = F := ⟨_, rfl⟩
  rw [hF] at hfc hsc
  have hse : set ≤ allN h := by omega
  obtain ⟨N, hN⟩ : ∃ N, allN h = N := ⟨_, rfl⟩
  rw [hN] at hfc hac hse
  obtain ⟨D, hD⟩ : ∃ D, N - set = D := ⟨_, rfl⟩
  rw [hD] at hfc
  have hN255 : N < 256 := by omega
  have hws : IntKind.i64.wrap ((N : Int) - (set : Int)) = (D : Int) := by rw [IntKind.wrap_i64]; omega
  have HFC := Lib.hid hfc
  have HSC := Lib.hid hsc
  have HAC := Lib.hid hac
  have HB0 := Lib.hid hb0
  clear hfc hsc hac hb0 hH hL hw hk hF hLR hN hD hzz hall hpw
  go_enter Try.func67, Try.ntmps67
  go_wp2_with fail
  clear hW1 p0 p1 p2 p3 p4
  have HBD := Lib.hid (belowDq (belowR W1))
  go_region_held3 (fun W => W.cell? ⟨w.heap.size, 0, none⟩ = some (.slice A h.ps.length cap) ∧ W.cell? ⟨w.heap.size, 1, none⟩ = some (.slice J h.js.length capJ) ∧ W.cell? ⟨w.heap.size, 2, none⟩ = some (.int .i64 h.slo) ∧ W.cell? ⟨w.heap.size, 3, none⟩ = some (.int .i64 h.shi) ∧ W.cell? ⟨w.heap.size, 4, none⟩ = some (.int .i64 h.winch)) (first | exact HKB.out _ HBD.out | exact HKB.out _ HB1.out | exact HKB.out _ HB2.out) (((first | (go_at_call 93; ((with_reducible refine (HAC.out _).mono ?_); rintro e w1 ⟨rfl, hb1⟩; have HB1 := Lib.hid (belowT HBD.out hb1); clear hb1)) | (go_at_call 109; ((with_reducible refine (HFC.out _ HB1.out).mono ?_); rintro e w2 ⟨hb2, g2, cap2, rfl, hown2⟩; have HB2 := Lib.hid (belowT HB1.out hb2); have HR2 := Lib.hid (row_rd hown2); clear hb2 hown2)) | (go_at_call 78; ((with_reducible refine (HSC.out _ g2 cap2 HR2.out).mono ?_); rintro e w3 ⟨rfl, rfl⟩)))))
  go_wp2_with fail
  go_ret
  exact ⟨rfl, belowT HB0.out HB2.out⟩
end Go.Proofs.Ytojgdallodmanaa

namespace Go.Proofs.Ytojgdallodmanaa
open Go.RowKit

theorem setsTo_of {h : Hul} {l : List Wgh} (hn8 : h.ps.length ≤ 8) {k : Nat} (hk : ∀ i, i < k → weighedE h.ps.length h.js l i = 0) : SetsTo l k := fun i y hi hy => by
  have h0 := hk i hi
  unfold weighedE at h0
  rw [hy] at h0
  simp only at h0
  split at h0
  · rename_i hb
    obtain ⟨s, a, _, _, b, _⟩ := blockE_zero hn8 hb
    exact ⟨s, b, a⟩
  · exact absurd h0 (by assumption)
theorem firstBad_no {f : Nat → Int} {k : Nat} (h : firstBad f k = none) : ∀ i, i < k → f i = 0 := firstBad_none h

set_option maxRecDepth 100000 in
set_option maxHeartbeats 16000000 in
theorem weighings_any (h : Hul) (A J : Option Addr) (B cap capJ : Nat) (AL : Option Addr) (l : List Wgh) (capL : Nat) (w : World)
    (hH : HulRd w B h A cap J capJ) (hL : RdN 3 encWgh w B AL l) (hlc : l.length ≤ maxLen) (hB : B ≤ w.heap.size) :
    Calls Try.prog 45 #[hv h A cap J capJ, .slice AL l.length capL] w fun e w' => e = .returned (iv (openE h l)) ∧ Below w.heap.size w w' := by
  unfold maxLen at hlc
  obtain ⟨W1, hW1, hb0, hzz, p0, p1, p2, p3, p4⟩ := hulBox w h A cap J capJ
  have HKB : Hid (∀ W, Below W1.heap.size W1 W → W.cell? ⟨w.heap.size, 0, none⟩ = some (.slice A h.ps.length cap) ∧ W.cell? ⟨w.heap.size, 1, none⟩ = some (.slice J h.js.length capJ) ∧ W.cell? ⟨w.heap.size, 2, none⟩ = some (.int .i64 h.slo) ∧ W.cell? ⟨w.heap.size, 3, none⟩ = some (.int .i64 h.shi) ∧ W.cell? ⟨w.heap.size, 4, none⟩ = some (.int .i64 h.winch)) := Lib.hid fun W hb => ⟨keepC hb p0, keepC hb p1, keepC hb p2, keepC hb p3, keepC hb p4⟩
  have hBz : B ≤ W1.heap.size := Nat.le_trans hB hb0.size
  have HH := Lib.hid (hH.below hb0 hB)
  have HL := Lib.hid (hL.below hb0 hB)
  have HB0 := Lib.hid hb0
  have hch := refCheck_any h A J B cap capJ W1 HH.out hBz
  obtain ⟨c1, c2, E, hc⟩ : ∃ a b c, checkE h = (a, b, c) := ⟨_, _, _, rfl⟩
  rw [hc] at hch
  unfold ret3 at hch
  simp only at hch
  have HCH := Lib.hid hch
  have hE : (checkE h).2.2 = E := by rw [hc]
  clear hch hb0 hH hL hzz hc
  by_cases h1 : E = 0
  case neg =>
    have hr : openE h l = E := by unfold openE openPre; rw [hE, if_neg h1, if_neg h1]
    have HR := Lib.hid hr
    have hne : (E == 0) = false := by simpa using h1
    clear hr h1 hE
    go_enter Try.func45, Try.ntmps45
    go_wp2_with fail
    refine HCH.out.mono ?_
    rintro e w2 ⟨rfl, hb2⟩
    have HB2 := Lib.hid (belowT HB0.out hb2)
    clear hb2 hW1 p0 p1 p2 p3 p4
    go_wp2_with fail
    refine wp_loop_rounds 1 ?_
    rw [rounds_succ]
    by_cases hl0 : (0 : Int) < (l.length : Int)
    · go_wp2_with fail
      go_ret
      exact ⟨by rw [HR.out]; rfl, HB2.out⟩
    · go_wp2_with fail
      go_ret
      exact ⟨by rw [HR.out]; rfl, HB2.out⟩
  subst h1
  by_cases h2 : l.length ≤ 6
  case neg =>
    have hr : openE h l = 3 := by unfold openE openPre; rw [hE, if_pos rfl, if_neg h2]; rfl
    have HR := Lib.hid hr
    have hd : (6 : Int) < (l.length : Int) := by omega
    have hl0 : (0 : Int) < (l.length : Int) := by omega
    clear hr hE
    go_enter Try.func45, Try.ntmps45
    go_wp2_with fail
    refine HCH.out.mono ?_
    rintro e w2 ⟨rfl, hb2⟩
    have HB2 := Lib.hid (belowT HB0.out hb2)
    clear hb2 hW1 p0 p1 p2 p3 p4
    go_wp2_with fail
    refine wp_loop_rounds 1 ?_
    rw [rounds_succ]
    go_wp2_with fail
    go_ret
    exact ⟨by rw [HR.out]; rfl, HB2.out⟩
  have hk := hulOk hE
  have hn1 := hk.n1
  have hn8 := hk.n8
  have hop : openPre h l = weighedsE h l := by unfold openPre; rw [hE, if_pos rfl, if_pos h2]
  have HOP := Lib.hid hop
  have HK := Lib.hid hk
  have hd : ¬ (6 : Int) < (l.length : Int) := by omega
  have hd' : (l.length : Int) ≤ 6 := by omega
  clear hop hk
  go_enter Try.func45, Try.ntmps45
  go_wp2_with fail
  refine HCH.out.mono ?_
  rintro e w2 ⟨rfl, hb2⟩
  have HB2 := Lib.hid hb2
  clear hb2 hW1 p0 p1 p2 p3 p4
  go_wp2_with fail
  go_loopw [7, 8] (fun vv vi wr => ∃ (k : Nat) (v : Int), k ≤ l.length ∧ vi = .int .i64 k ∧ vv = .int .i64 v ∧ Hid (v = 0 → firstBad (weighedE h.ps.length h.js l) k = none) ∧ Hid (v ≠ 0 → weighedsE h l = v) ∧ Hid (Below W1.heap.size W1 wr)) (fun _ vi _ => l.length - (intOf vi).toNat)
  case atStart => exact ⟨0, 0, Nat.zero_le _, rfl, rfl, Lib.hid (fun _ => rfl), Lib.hid (fun h => absurd rfl h), HB2⟩
  case round =>
    obtain ⟨k, v, hk, rfl, rfl, HV0, HV1, HBR⟩ := hrel
    obtain ⟨p0, p1, p2, p3, p4⟩ := HKB.out _ HBR.out
    by_cases hstop : k < l.length ∧ v = 0
    · obtain ⟨hlt, rfl⟩ := hstop
      have hfb := HV0.out rfl
      have hwc := refWeighed_any h A J B cap capJ AL l capL k wr (HH.out.below HBR.out hBz) hn1 hn8 HK.out.js HK.out.j12 (HL.out.below HBR.out hBz) h2 hlt (setsTo_of hn8 (firstBad_no hfb)) (Nat.le_trans hBz HBR.out.size)
      obtain ⟨V, hV⟩ : ∃ V, weighedE h.ps.length h.js l k = V := ⟨_, rfl⟩
      rw [hV] at hwc
      have HFB := Lib.hid hfb
      have HWC := Lib.hid hwc
      have HVV := Lib.hid hV
      have hk0 : (0 : Int) ≤ (k : Int) := by omega
      have hkl : (k : Int) < (l.length : Int) := by omega
      clear hfb hwc hV HV0 HV1
      go_wp2_with fail
      refine HWC.out.mono ?_
      rintro e w3 ⟨rfl, hb3⟩
      have HB3 := Lib.hid (belowT HBR.out hb3)
      clear hb3
      go_wp2_with fail
      go_roundw
      case rel => exact ⟨k + 1, V, by omega, by go_num, rfl, Lib.hid (fun h0 => firstBad_succ HFB.out (by rw [HVV.out]; exact h0)), Lib.hid (fun h0 => by unfold weighedsE; rw [firstBad_at HFB.out (by rw [HVV.out]; exact h0) hlt]; exact HVV.out), HB3⟩
      case measure => simp [intOf]; omega
    · by_cases h0 : v = 0
      · subst h0
        obtain rfl : k = l.length := by
          by_cases hlt : k < l.length
          · exact absurd ⟨hlt, rfl⟩ hstop
          · omega
        have hfb := HV0.out rfl
        have hop0 : openPre h l = 0 := by rw [HOP.out]; unfold weighedsE; rw [hfb]
        obtain ⟨hlw, hps, hpos⟩ := lwOk hop0
        have hmf := hlw.most_feas hps hpos (set := allN h) (by unfold allN; have := Nat.one_le_two_pow (n := h.ps.length); omega)
        have hal : allN h < 256 := by
          have : 2 ^ h.ps.length ≤ 256 := Nat.pow_le_pow_right (n := 2) (by decide) hn8
          have := Nat.one_le_two_pow (n := h.ps.length)
          unfold allN; omega
        have hmc : ∀ V, Below wr.heap.size wr V → Calls Try.prog 66 #[hv h A cap J capJ, .slice AL l.length capL, .int .i64 (allN h : Nat)] V (MostRow (mostW h l (allN h)) (agreesB l (mostW h l (allN h))) h.ps.length V) := fun V hb => most66_any h A J B cap capJ AL l capL (allN h) V (HH.out.below (belowT HBR.out hb) hBz) HK.out (HL.out.below (belowT HBR.out hb) hBz) (wghsOk hop0) hal (Nat.le_trans hBz (belowT HBR.out hb).size)
        have hac : ∀ V, Calls Try.prog 93 #[hv h A cap J capJ] V fun e w' => e = .returned (iv (allN h : Nat)) ∧ Below V.heap.size V w' := fun V => all_any h A J cap capJ V hn8
        have hr : openE h l = if agreesB l (mostW h l (allN h)) = true then 0 else 9 := by
          unfold openE
          rw [if_pos hop0]
          by_cases hf : Feas h l
          · rw [if_pos hf, if_pos (hmf.2 hf)]
          · rw [if_neg hf, if_neg (fun h => hf (hmf.1 h))]
        obtain ⟨AG, hAG⟩ : ∃ b, agreesB l (mostW h l (allN h)) = b := ⟨_, rfl⟩
        rw [hAG] at hmc hr
        obtain ⟨M, hM⟩ : ∃ M, mostW h l (allN h) = M := ⟨_, rfl⟩
        rw [hM] at hmc
        obtain ⟨N, hN⟩ : ∃ N, allN h = N := ⟨_, rfl⟩
        rw [hN] at hmc hac
        have HMC := Lib.hid hmc
        have HAC := Lib.hid hac
        have HR := Lib.hid hr
        have HKW : Hid (∀ W, Below wr.heap.size wr W → W.cell? ⟨w.heap.size, 0, none⟩ = some (.slice A h.ps.length cap) ∧ W.cell? ⟨w.heap.size, 1, none⟩ = some (.slice J h.js.length capJ) ∧ W.cell? ⟨w.heap.size, 2, none⟩ = some (.int .i64 h.slo) ∧ W.cell? ⟨w.heap.size, 3, none⟩ = some (.int .i64 h.shi) ∧ W.cell? ⟨w.heap.size, 4, none⟩ = some (.int .i64 h.winch)) := Lib.hid fun W hb => HKB.out W (belowT HBR.out hb)
        clear hfb hop0 hlw hps hpos hmf hmc hac hr hAG hM hN hal hstop HV0 HV1
        go_wp2_with fail
        clear p0 p1 p2 p3 p4
        have HBD := Lib.hid (belowDq (belowR wr))
        go_region_held3 (fun W => W.cell? ⟨w.heap.size, 0, none⟩ = some (.slice A h.ps.length cap) ∧ W.cell? ⟨w.heap.size, 1, none⟩ = some (.slice J h.js.length capJ) ∧ W.cell? ⟨w.heap.size, 2, none⟩ = some (.int .i64 h.slo) ∧ W.cell? ⟨w.heap.size, 3, none⟩ = some (.int .i64 h.shi) ∧ W.cell? ⟨w.heap.size, 4, none⟩ = some (.int .i64 h.winch)) (first | exact HKW.out _ HBD.out | exact HKW.out _ HB3.out | exact HKW.out _ HB4.out) (((first | (go_at_call 93; ((with_reducible refine (HAC.out _).mono ?_); rintro e w3 ⟨rfl, hb3⟩; have HB3 := Lib.hid (belowT HBD.out hb3); clear hb3)) | (go_at_call 66; ((with_reducible refine (HMC.out _ HB3.out).mono ?_); rintro e w4 ⟨hb4, g4, cap4, rfl, hown4⟩; have HB4 := Lib.hid (belowT HB3.out hb4); clear hb4 hown4)))))
        cases AG
        · go_wp2_with fail
          go_ret
          exact ⟨by rw [HR.out]; rfl, belowT HB0.out (belowT HBR.out HB4.out)⟩
        · go_wp2_with fail
          go_ret
          exact ⟨by rw [HR.out]; rfl, belowT HB0.out (belowT HBR.out HB4.out)⟩
      · have hr : openE h l = v := by unfold openE; rw [HOP.out, HV1.out h0, if_neg h0]
        have HR := Lib.hid hr
        have hne : (v == 0) = false := by simpa using h0
        clear hr h0 hstop
        by_cases hlt : k < l.length
        · go_wp2_with fail
          go_ret
          exact ⟨by rw [HR.out]; rfl, belowT HB0.out HBR.out⟩
        · go_wp2_with fail
          go_ret
          exact ⟨by rw [HR.out]; rfl, belowT HB0.out HBR.out⟩
end Go.Proofs.Ytojgdallodmanaa

namespace Go.Proofs.Ytojgdallodmanaa
open Go.RowKit

theorem sets_any (h : Hul) (A J : Option Addr) (B cap capJ : Nat) (AL : Option Addr) (l : List Wgh) (capL : Nat) (w : World)
    (hH : HulRd w B h A cap J capJ) (hL : RdN 3 encWgh w B AL l) (hlc : l.length ≤ maxLen) (hB : B ≤ w.heap.size) :
    Calls Try.prog 39 #[hv h A cap J capJ, .slice AL l.length capL] w fun e w' => e = .returned (.bool (openE h l == 0 || openE h l == 9)) ∧ Below w.heap.size w w' := by
  obtain ⟨W1, hW1, hb0, hzz, p0, p1, p2, p3, p4⟩ := hulBox w h A cap J capJ
  have hwc := weighings_any h A J B cap capJ AL l capL W1 (hH.below hb0 hB) (hL.below hb0 hB) hlc (Nat.le_trans hB hb0.size)
  obtain ⟨E, hE⟩ : ∃ E, openE h l = E := ⟨_, rfl⟩
  rw [hE] at hwc ⊢
  have HWC := Lib.hid hwc
  have HB0 := Lib.hid hb0
  clear hwc hb0 hH hL hE hzz
  by_cases h0 : E = 0
  · subst h0
    go_enter Try.func39, Try.ntmps39
    go_wp2_with fail
    refine HWC.out.mono ?_
    rintro e w2 ⟨rfl, hb2⟩
    have HB2 := Lib.hid (belowT HB0.out hb2)
    clear hb2 hW1 p0 p1 p2 p3 p4
    go_wp2_with fail
    go_ret
    exact ⟨rfl, HB2.out⟩
  · have hne : (E == 0) = false := by simpa using h0
    rw [hne]
    go_enter Try.func39, Try.ntmps39
    go_wp2_with fail
    refine HWC.out.mono ?_
    rintro e w2 ⟨rfl, hb2⟩
    have HB2 := Lib.hid (belowT HB0.out hb2)
    clear hb2 hW1 p0 p1 p2 p3 p4
    go_wp2_with fail
    go_ret
    exact ⟨rfl, HB2.out⟩

theorem hround_self (js : List (Int × Int)) (s : Nat) : hround js s s = s := by
  unfold hround
  have : ∀ js : List (Int × Int), js.foldl (hstep s) s = s := by
    intro js
    induction js with
    | nil => rfl
    | cons j js ih =>
      rw [List.foldl_cons]
      have h1 : hstep s s j = s := by
        unfold hstep
        split
        · rename_i h
          rw [Nat.or_comm]
          apply Nat.eq_of_testBit_eq
          intro i
          have := congrArg (fun x => x.testBit i) h.1
          simp only [Nat.testBit_and] at this
          rw [Nat.testBit_or]
          cases h1 : (pairN j).testBit i <;> cases h2 : s.testBit i <;> simp_all
        · rfl
      rw [h1, ih]
  exact this js
theorem low_single : ∀ i : Nat, i < 8 → 2 ^ i &&& (256 - 2 ^ i) = 2 ^ i := by decide
theorem hangs_single (js : List (Int × Int)) {i : Nat} (hi : i < 8) : hangsB js (2 ^ i) = true := by
  unfold hangsB
  rw [low_single i hi, hangF_eq, hround_self, if_pos rfl]
  simp

set_option maxRecDepth 100000 in
set_option maxHeartbeats 800000 in
theorem hung_any (h : Hul) (A J : Option Addr) (B cap capJ a : Nat) (w : World) (hH : HulRd w B h A cap J capJ) (hn1 : 1 ≤ h.ps.length) (hn8 : h.ps.length ≤ 8) (hj : JsOk h.ps.length h.js) (hjl : h.js.length ≤ 12) (ha : a < 256) (hB : B ≤ w.heap.size) :
    Calls Try.prog 42 #[hv h A cap J capJ, .int .u8 a] w fun e w' => Below w.heap.size w w' ∧ ∃ s : Nat, e = .returned (iv s) ∧ 0 < s ∧ s < 2 ^ h.ps.length ∧ hangsB h.js s = true := by
  obtain ⟨W1, hW1, hb0, hzz, p0, p1, p2, p3, p4⟩ := hulBox w h A cap J capJ
  have hpw : 2 ^ h.ps.length ≤ 256 := Nat.pow_le_pow_right (n := 2) (by decide) hn8
  have hp2 : 2 ≤ 2 ^ h.ps.length := Nat.pow_le_pow_right (n := 2) (by decide) hn1
  have hbi := fun W => bit_any h.ps.length W (by omega)
  have hhc : ∀ (s : Nat) V, s < 2 ^ h.ps.length → Below W1.heap.size W1 V → Calls Try.prog 50 #[hv h A cap J capJ, .int .i64 s] V fun e w' => e = .returned (.bool (hangsB h.js s)) ∧ Below V.heap.size V w' := fun s V hs hb => refHangs_any h A J B cap capJ s V (hH.below (belowT hb0 hb) hB) hn1 hn8 hj hjl hs (Nat.le_trans hB (Nat.le_trans hb0.size hb.size))
  have hkl : ∀ s : Nat, s < 2 ^ h.ps.length → s < 256 := fun s hs => by omega
  have HKB : Hid (∀ W, Below W1.heap.size W1 W → W.cell? ⟨w.heap.size, 0, none⟩ = some (.slice A h.ps.length cap) ∧ W.cell? ⟨w.heap.size, 1, none⟩ = some (.slice J h.js.length capJ) ∧ W.cell? ⟨w.heap.size, 2, none⟩ = some (.int .i64 h.slo) ∧ W.cell? ⟨w.heap.size, 3, none⟩ = some (.int .i64 h.shi) ∧ W.cell? ⟨w.heap.size, 4, none⟩ = some (.int .i64 h.winch)) := Lib.hid fun W hb => ⟨keepC hb p0, keepC hb p1, keepC hb p2, keepC hb p3, keepC hb p4⟩
  have HSG : Hid (∀ i : Nat, i < h.ps.length → hangsB h.js (2 ^ i) = true) := Lib.hid fun i hi => hangs_single _ (by omega)
  have HPW : Hid (∀ i : Nat, i < h.ps.length → 2 ^ i ≤ 128) := Lib.hid fun i hi => Nat.pow_le_pow_right (n := 2) (by decide) (show i ≤ 7 by omega)
  have HMO : Hid (∀ i : Nat, i ≤ h.ps.length → 2 ^ i ≤ 2 ^ h.ps.length) := Lib.hid fun i hi => Nat.pow_le_pow_right (n := 2) (by decide) hi
  have hpm := hH.pm
  have hpl := hH.pl
  unfold maxLen at hpm
  obtain ⟨P, hP⟩ : ∃ P : Nat, 2 ^ h.ps.length = P := ⟨_, rfl⟩
  rw [hP] at hpw hp2 hbi hhc hkl HMO ⊢
  have HP := Lib.hid hP
  have HBI := Lib.hid hbi
  have HHC := Lib.hid hhc
  have HKL := Lib.hid hkl
  have HB0 := Lib.hid hb0
  have hrem : ((a : Int) % (P : Int)) = ((a % P : Nat) : Int) := by rw [Int.natCast_emod]
  have hrl := Nat.mod_lt a (show 0 < P by omega)
  obtain ⟨r, hr⟩ : ∃ r, a % P = r := ⟨_, rfl⟩
  rw [hr] at hrem hrl
  have hP0 : ((P : Int) == 0) = false := by rw [beq_eq_false_iff_ne]; omega
  clear hP hbi hhc hkl hb0 hH hr hzz hj
  by_cases hr0 : r = 0
  · have hre : ((a : Int) % (P : Int) == 0) = true := by rw [hrem, hr0]; rfl
    have HREM := Lib.hid hrem
    clear hrem
    go_enter Try.func42, Try.ntmps42
    go_wp2_with (go_at_call 47; refine (HBI.out _).mono ?_; rintro e w' ⟨rfl, rfl⟩)
    clear hW1 p0 p1 p2 p3 p4 hre hP0
    obtain ⟨wq, hwq⟩ : ∃ wq : World, wq = W1 := ⟨_, rfl⟩
    have HBQ : Hid (Below W1.heap.size W1 wq) := Lib.hid (by rw [hwq]; exact belowR _)
    rw [← hwq]
    clear hwq
    go_loopw [5] (fun vs wr => ∃ s : Nat, vs = .int .i64 s ∧ 0 < s ∧ s < P ∧ Hid (Below W1.heap.size W1 wr)) (fun vs _ => (intOf vs).toNat)
    case atStart => exact ⟨1, rfl, by omega, by omega, HBQ⟩
    case round =>
      obtain ⟨s, rfl, hs0, hsP, HBR⟩ := hrel
      obtain ⟨p0, p1, p2, p3, p4⟩ := HKB.out _ HBR.out
      have hhs := HHC.out s wr hsP HBR.out
      obtain ⟨b, hb⟩ : ∃ b, hangsB h.js s = b := ⟨_, rfl⟩
      rw [hb] at hhs
      have HHS := Lib.hid hhs
      have HBB := Lib.hid hb
      clear hhs hb
      go_wp2_with fail
      refine HHS.out.mono ?_
      rintro e w2 ⟨rfl, hb2⟩
      have HB2 := Lib.hid (belowT HBR.out hb2)
      clear hb2 p0 p1 p2 p3 p4
      obtain ⟨p0, p1, p2, p3, p4⟩ := HKB.out _ HB2.out
      cases b
      · go_wp2_with fail
        obtain ⟨wa, hwa⟩ : ∃ wa : World, wa = w2 := ⟨_, rfl⟩
        have HBA : Hid (Below W1.heap.size W1 wa) := Lib.hid (by rw [hwa]; exact HB2.out)
        rw [← hwa]
        clear hwa p0 p1 p2 p3 p4
        go_loopw [5, 6] (fun vs vi wr => ∃ k : Nat, k ≤ h.ps.length ∧ vs = .int .i64 s ∧ vi = .int .i64 ((k : Int) - 1) ∧ Hid (s < 2 ^ k) ∧ Hid (Below W1.heap.size W1 wr)) (fun _ vi _ => (intOf vi + 1).toNat)
        case atStart => exact ⟨h.ps.length, Nat.le_refl _, rfl, by go_num, Lib.hid (by rw [HP.out]; exact hsP), HBA⟩
        case round =>
          obtain ⟨k, hk, rfl, rfl, HSK, HBW⟩ := hrel
          by_cases hlt : 0 < k
          case neg =>
            obtain rfl : k = 0 := by omega
            have := HSK.out
            simp at this
            omega
          obtain ⟨q, rfl⟩ : ∃ q, k = q + 1 := ⟨k - 1, by omega⟩
          have e1 : ((q + 1 : Nat) : Int) - 1 = (q : Int) := by omega
          rw [e1]
          have hq0 : (0 : Int) ≤ (q : Int) := by omega
          have h91 : ∀ W, Calls Try.prog 91 #[.int .i64 s, .int .i64 q] W fun e w' => e = .returned (.bool (s.testBit q)) ∧ W = w' := fun W => has2_any s q W (HKL.out s hsP) (by omega)
          obtain ⟨bq, hbq⟩ : ∃ b, s.testBit q = b := ⟨_, rfl⟩
          rw [hbq] at h91
          have H91 := Lib.hid h91
          clear h91
          have hbit := hbq
          clear hbq
          cases bq
          · have hsq : s < 2 ^ q := by
              refine Nat.lt_pow_two_of_testBit s fun j hj => ?_
              by_cases hjq : j = q
              · rw [hjq]; exact hbit
              · exact Nat.testBit_lt_two_pow (Nat.lt_of_lt_of_le HSK.out (Nat.pow_le_pow_right (by decide) (by omega)))
            have HSQ := Lib.hid hsq
            clear hsq hbit
            go_wp2_with (go_at_call 91; refine (H91.out _).mono ?_; rintro e w' ⟨rfl, rfl⟩)
            go_roundw
            case rel => exact ⟨q, by omega, rfl, by go_num, HSQ, HBW⟩
            case measure => simp [intOf]
          · have hge : 2 ^ q ≤ s := Nat.ge_two_pow_of_testBit hbit
            have hne : s ≠ 2 ^ q := fun e => by
              have h1 := HSG.out q (by omega)
              rw [← e, HBB.out] at h1
              cases h1
            have hq128 := HPW.out q (by omega)
            have hb47 := fun W => bit_any q W (by omega)
            obtain ⟨Q, hQ⟩ : ∃ Q : Nat, 2 ^ q = Q := ⟨_, rfl⟩
            have hQ0 : 0 < Q := by rw [← hQ]; exact Nat.pow_pos (by decide)
            rw [hQ] at hge hne hq128 hb47
            have HB47 := Lib.hid hb47
            clear hQ hb47 hbit
            go_wp2_with (first | (go_at_call 91; refine (H91.out _).mono ?_; rintro e w' ⟨rfl, rfl⟩) | (go_at_call 47; refine (HB47.out _).mono ?_; rintro e w' ⟨rfl, rfl⟩))
            go_roundw
            case rel => exact ⟨s - Q, by go_num, by omega, by omega, HBW⟩
            case measure => simp [intOf]; omega
      · go_wp2_with fail
        go_ret
        exact ⟨belowT HB0.out HB2.out, s, rfl, hs0, hsP, HBB.out⟩
  · have hre : ((a : Int) % (P : Int) == 0) = false := by rw [hrem, beq_eq_false_iff_ne]; omega
    have HREM := Lib.hid hrem
    clear hrem
    go_enter Try.func42, Try.ntmps42
    go_wp2_with (go_at_call 47; refine (HBI.out _).mono ?_; rintro e w' ⟨rfl, rfl⟩)
    clear hW1 p0 p1 p2 p3 p4 hre hP0
    obtain ⟨wq, hwq⟩ : ∃ wq : World, wq = W1 := ⟨_, rfl⟩
    have HBQ : Hid (Below W1.heap.size W1 wq) := Lib.hid (by rw [hwq]; exact belowR _)
    rw [← hwq]
    clear hwq
    go_loopw [5] (fun vs wr => ∃ s : Nat, vs = .int .i64 s ∧ 0 < s ∧ s < P ∧ Hid (Below W1.heap.size W1 wr)) (fun vs _ => (intOf vs).toNat)
    case atStart => exact ⟨r, by rw [HREM.out], by omega, hrl, HBQ⟩
    case round =>
      obtain ⟨s, rfl, hs0, hsP, HBR⟩ := hrel
      obtain ⟨p0, p1, p2, p3, p4⟩ := HKB.out _ HBR.out
      have hhs := HHC.out s wr hsP HBR.out
      obtain ⟨b, hb⟩ : ∃ b, hangsB h.js s = b := ⟨_, rfl⟩
      rw [hb] at hhs
      have HHS := Lib.hid hhs
      have HBB := Lib.hid hb
      clear hhs hb
      go_wp2_with fail
      refine HHS.out.mono ?_
      rintro e w2 ⟨rfl, hb2⟩
      have HB2 := Lib.hid (belowT HBR.out hb2)
      clear hb2 p0 p1 p2 p3 p4
      obtain ⟨p0, p1, p2, p3, p4⟩ := HKB.out _ HB2.out
      cases b
      · go_wp2_with fail
        obtain ⟨wa, hwa⟩ : ∃ wa : World, wa = w2 := ⟨_, rfl⟩
        have HBA : Hid (Below W1.heap.size W1 wa) := Lib.hid (by rw [hwa]; exact HB2.out)
        rw [← hwa]
        clear hwa p0 p1 p2 p3 p4
        go_loopw [5, 6] (fun vs vi wr => ∃ k : Nat, k ≤ h.ps.length ∧ vs = .int .i64 s ∧ vi = .int .i64 ((k : Int) - 1) ∧ Hid (s < 2 ^ k) ∧ Hid (Below W1.heap.size W1 wr)) (fun _ vi _ => (intOf vi + 1).toNat)
        case atStart => exact ⟨h.ps.length, Nat.le_refl _, rfl, by go_num, Lib.hid (by rw [HP.out]; exact hsP), HBA⟩
        case round =>
          obtain ⟨k, hk, rfl, rfl, HSK, HBW⟩ := hrel
          by_cases hlt : 0 < k
          case neg =>
            obtain rfl : k = 0 := by omega
            have := HSK.out
            simp at this
            omega
          obtain ⟨q, rfl⟩ : ∃ q, k = q + 1 := ⟨k - 1, by omega⟩
          have e1 : ((q + 1 : Nat) : Int) - 1 = (q : Int) := by omega
          rw [e1]
          have hq0 : (0 : Int) ≤ (q : Int) := by omega
          have h91 : ∀ W, Calls Try.prog 91 #[.int .i64 s, .int .i64 q] W fun e w' => e = .returned (.bool (s.testBit q)) ∧ W = w' := fun W => has2_any s q W (HKL.out s hsP) (by omega)
          obtain ⟨bq, hbq⟩ : ∃ b, s.testBit q = b := ⟨_, rfl⟩
          rw [hbq] at h91
          have H91 := Lib.hid h91
          clear h91
          have hbit := hbq
          clear hbq
          cases bq
          · have hsq : s < 2 ^ q := by
              refine Nat.lt_pow_two_of_testBit s fun j hj => ?_
              by_cases hjq : j = q
              · rw [hjq]; exact hbit
              · exact Nat.testBit_lt_two_pow (Nat.lt_of_lt_of_le HSK.out (Nat.pow_le_pow_right (by decide) (by omega)))
            have HSQ := Lib.hid hsq
            clear hsq hbit
            go_wp2_with (go_at_call 91; refine (H91.out _).mono ?_; rintro e w' ⟨rfl, rfl⟩)
            go_roundw
            case rel => exact ⟨q, by omega, rfl, by go_num, HSQ, HBW⟩
            case measure => simp [intOf]
          · have hge : 2 ^ q ≤ s := Nat.ge_two_pow_of_testBit hbit
            have hne : s ≠ 2 ^ q := fun e => by
              have h1 := HSG.out q (by omega)
              rw [← e, HBB.out] at h1
              cases h1
            have hq128 := HPW.out q (by omega)
            have hb47 := fun W => bit_any q W (by omega)
            obtain ⟨Q, hQ⟩ : ∃ Q : Nat, 2 ^ q = Q := ⟨_, rfl⟩
            have hQ0 : 0 < Q := by rw [← hQ]; exact Nat.pow_pos (by decide)
            rw [hQ] at hge hne hq128 hb47
            have HB47 := Lib.hid hb47
            clear hQ hb47 hbit
            go_wp2_with (first | (go_at_call 91; refine (H91.out _).mono ?_; rintro e w' ⟨rfl, rfl⟩) | (go_at_call 47; refine (HB47.out _).mono ?_; rintro e w' ⟨rfl, rfl⟩))
            go_roundw
            case rel => exact ⟨s - Q, by go_num, by omega, by omega, HBW⟩
            case measure => simp [intOf]; omega
      · go_wp2_with fail
        go_ret
        exact ⟨belowT HB0.out HB2.out, s, rfl, hs0, hsP, HBB.out⟩
end Go.Proofs.Ytojgdallodmanaa

namespace Go.Proofs.Ytojgdallodmanaa
open Go.RowKit

/-- The weights of a truth, by turns. -/
def truthF (h : Hul) (us : List Int) (i : Nat) : Int := amongI (loOf h i) (hiOf h i) (turnI us i)
theorem truthF_box {h : Hul} (hps : PsOk h.ps) (us : List Int) : Box h (truthF h us) := by
  refine box_iff.2 fun i hi => ?_
  have hb := box_iff.1 (lo_box hps) i hi
  exact amongI_bd hb.2
def U32s (us : List Int) : Prop := us.length ≤ maxLen ∧ ∀ x ∈ us, 0 ≤ x ∧ x ≤ 4294967295

set_option maxRecDepth 100000 in
set_option maxHeartbeats 8000000 in
theorem truth_any (h : Hul) (A J : Option Addr) (B cap capJ : Nat) (AU : Option Addr) (us : List Int) (capU : Nat) (w : World) (hH : HulRd w B h A cap J capJ) (hk : HulOk h) (hu : U32s us) (hU : Rd1 uv w B AU us) (hB : B ≤ w.heap.size) :
    Calls Try.prog 40 #[hv h A cap J capJ, .slice AU us.length capU] w (RowPost (truthF h us) h.ps.length w) := by
  obtain ⟨i3, hi3, hz30, hz31, hz32⟩ := info_parts Try.info3
  obtain ⟨W1, hW1, hb0, hzz, p0, p1, p2, p3, p4⟩ := hulBox w h A cap J capJ
  have hn8 := hk.n8
  have hn1 := hk.n1
  have HKB : Hid (∀ W, Below W1.heap.size W1 W → W.cell? ⟨w.heap.size, 0, none⟩ = some (.slice A h.ps.length cap)) := Lib.hid fun W hb => keepC hb p0
  have hBz : B ≤ W1.heap.size := Nat.le_trans hB hb0.size
  have hzW : w.heap.size ≤ W1.heap.size := hb0.size
  have HP := Lib.hid (hH.ps.below hb0 hB)
  have HU := Lib.hid (hU.below hb0 hB)
  have HB0 := Lib.hid hb0
  have HK := Lib.hid hk
  have HUU := Lib.hid hu
  have hpm := hH.pm
  have hpl := hH.pl
  unfold maxLen at hpm
  clear hb0 hH hU hk hu hzz
  go_enter Try.func40, Try.ntmps40
  go_wp2_with fail
  clear hW1 p0 p1 p2 p3 p4
  obtain ⟨wq, hwq⟩ : ∃ wq : World, wq = W1 := ⟨_, rfl⟩
  have HBQ : Hid (Below W1.heap.size W1 wq) := Lib.hid (by rw [hwq]; exact belowR _)
  rw [← hwq]
  clear hwq
  go_loopw [5, 6] (fun vv vi wr => ∃ (k : Nat) (v : Value), k ≤ h.ps.length ∧ vi = .int .i64 k ∧ v = vv ∧ Hid (wr.ownsRow W1.heap.size 3 1 v k ((rowW (truthF h us) k).map iv)) ∧ Hid (Below W1.heap.size W1 wr)) (fun _ vi _ => h.ps.length - (intOf vi).toNat)
  case atStart => exact ⟨0, _, Nat.zero_le _, rfl, rfl, Lib.hid (World.ownsRow_nil _ _ _ _), HBQ⟩
  case round =>
    obtain ⟨k, v, hk, rfl, rfl, OWN, HBR⟩ := hrel
    have p0 := HKB.out _ HBR.out
    have hzr := HBR.out.size
    by_cases hlt : k < h.ps.length
    · obtain ⟨x, hx⟩ : ∃ x, h.ps[k]? = some x := ⟨_, List.getElem?_eq_getElem hlt⟩
      have hxo := HK.out.ps x (List.mem_of_getElem? hx)
      obtain ⟨b, off, rfl, _, e0, e1, e2⟩ := prtAt HP.out hx
      have htr : truthF h us k = amongI x.lo x.hi (turnI us k) := by unfold truthF loOf hiOf; rw [hx]; rfl
      have htb := turnI_bd us k HUU.out.2
      have htc : ∀ V, Below wr.heap.size wr V → Calls Try.prog 53 #[.slice AU us.length capU, .int .i64 k] V fun e w' => e = .returned (iv (turnI us k)) ∧ V = w' := fun V hb => turn_any AU us B capU k V HUU.out.1 (HU.out.below (belowT HBR.out hb) hBz) HUU.out.2 (by omega)
      have hac : ∀ V, Calls Try.prog 43 #[.agg #[.int .i64 x.lo, .int .i64 x.hi], .int .i64 (turnI us k)] V fun e w' => e = .returned (iv (amongI x.lo x.hi (turnI us k))) ∧ Below V.heap.size V w' := fun V => among_any x.lo x.hi (turnI us k) V hxo.1 hxo.2.1 (by omega) htb.1 htb.2
      obtain ⟨xn, xlo, xhi⟩ := x
      simp only at e0 e1 e2 htr hac
      obtain ⟨T, hT⟩ : ∃ T, turnI us k = T := ⟨_, rfl⟩
      rw [hT] at htc hac htr
      obtain ⟨M, hM⟩ : ∃ M, amongI xlo xhi T = M := ⟨_, rfl⟩
      rw [hM] at hac htr
      have HTC := Lib.hid htc
      have HAC := Lib.hid hac
      have HTR := Lib.hid htr
      have hk0 : (0 : Int) ≤ (k : Int) := by omega
      have hkz : (k : Int) < (h.ps.length : Int) := by omega
      have HS : Hid (∀ W, Below W1.heap.size W1 W → W.cell? ⟨w.heap.size, 0, none⟩ = some (.slice (some ⟨b, off, none⟩) h.ps.length cap) ∧ W.cell? ⟨b, off + k * 3 + 1, none⟩ = some (iv xlo) ∧ W.cell? ⟨b, off + k * 3 + 2, none⟩ = some (iv xhi)) := Lib.hid fun W hb => ⟨HKB.out W hb, keepC hb e1, keepC hb e2⟩
      have hk9 : k + 1 ≤ maxLen := by unfold maxLen; omega
      have hk8 : (k + 1) * 8 ≤ 140737488355328 := by omega
      clear hx hxo htr htb htc hac hT hM e0 e1 e2 p0
      have p0 := HKB.out _ HBR.out
      go_wp2_with fail
      have HBD := Lib.hid (belowDq (belowR wr))
      have HBD1 := Lib.hid (belowT HBR.out HBD.out)
      go_region_held3 (fun W => W.cell? ⟨w.heap.size, 0, none⟩ = some (.slice (some ⟨b, off, none⟩) h.ps.length cap) ∧ W.cell? ⟨b, off + k * 3 + 1, none⟩ = some (iv xlo) ∧ W.cell? ⟨b, off + k * 3 + 2, none⟩ = some (iv xhi)) (first | exact HS.out _ HBD1.out | exact HS.out _ HB31.out | exact HS.out _ HB5.out | exact HS.out _ (belowA HB31.out _)) (((first | (have hz3 : W1.heap.size ≤ w3.heap.size := Nat.le_trans hzr HB3.out.size; have hownA := (own_below OWN.out HB3.out).alloc (.cells #[.int .i64 M] 3); refine step_append_lies _ (by rfl) _ _ _ (by rfl) W1.heap.size 3 i3 _ 1 8 Try.underlying40 hi3 hz30 hz31 hz32 rfl (by omega) _ k _ (by rfl) hownA ⟨w3.heap.size, 0, none⟩ 1 1 [.int .i64 M] (by rfl) (by rfl) (World.news_of_block (cs := #[.int .i64 M]) (t := 3) (fr := (0, 0)) (heap_alloc_new w3 _)) (by simp [Value.oneCell']) (by omega) hk9 hk8 (by simp; omega) (w3.heap.size + 1) (by simp) ?_; intro gg cap9 w5 hown5 hgrow hat hlt5; have HB5 := Lib.hid (grownB hownA hgrow (Nat.le_refl _) (belowA HB31.out _)); have HO5 := Lib.hid hown5; clear hownA hown5 hgrow hat) | (go_at_call 53; ((with_reducible refine (HTC.out _ HBD.out).mono ?_); rintro e w2 ⟨rfl, rfl⟩)) | (go_at_call 43; ((with_reducible refine (HAC.out _).mono ?_); rintro e w3 ⟨rfl, hb3⟩; have HB3 := Lib.hid (belowT HBD.out hb3); have HB31 := Lib.hid (belowT HBR.out HB3.out); clear hb3)))))
      go_wp2_with fail
      go_roundw
      case rel => exact ⟨k + 1, _, by omega, by go_num, rfl, Lib.hid (by rw [rowW_succ, HTR.out, List.map_append]; exact HO5.out), HB5⟩
      case measure => simp [intOf]; omega
    · obtain rfl : k = h.ps.length := by omega
      have hown := OWN.out
      obtain ⟨g0, cap0, rfl, hg0, _, _⟩ := own_form hown hn1
      have HO0 := Lib.hid hown
      clear hown OWN
      go_wp2_with fail
      go_ret
      exact ⟨belowT HB0.out HBR.out, g0, cap0, rfl, own_base HO0.out hzW⟩
end Go.Proofs.Ytojgdallodmanaa
