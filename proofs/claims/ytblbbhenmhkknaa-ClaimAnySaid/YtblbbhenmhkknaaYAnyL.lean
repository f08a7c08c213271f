/- ClaimAny: the law's function. -/
import Derived.Deep.DeepCutAuto
import Derived.Deep.RegionHeld3
import Derived.WalkLawsBesides
import Derived.Test.YtblbbhenmhkknaaYL5
import Derived.Test.YtblbbhenmhkknaaYA2
import Derived.Test.YtblbbhenmhkknaaYO2
namespace Go.Proofs.Ytblbbhenmhkknaa
open Go.RowKit Go.Sort

theorem named_yesB (A : Option Addr) (os : List (List UInt8)) (B cap : Nat) (s : ByteArray) (w : World) (hm : os.length ≤ maxLen) (hR : Rd1 encStr w B A os) (hx : bs s ∈ os) :
    Calls Try.prog 42 #[.slice A os.length cap, .string s] w fun e w' => e = .returned (.bool true) ∧ w = w' := by
  have h := named_yes A os B cap (bs s) w hm hR hx
  have e : (⟨(bs s).toArray⟩ : ByteArray) = s := sb_bs s
  rw [e] at h
  exact h

set_option maxRecDepth 1000000 in
set_option maxHeartbeats 4000000 in
theorem anyLaw_no (first : ByteArray) (A : Option Addr) (ps : List Pap) (B cap : Nat) (forged : Int) (xa xb xc : Nat) (w : World) (hf : first.size ≤ maxLen) (hm : ps.length ≤ cap) (hcm : cap ≤ maxLen) (hok : PapsOk ps) (hR : RdN 3 encPap w B A ps) (hB : B ≤ w.heap.size) (hxc : xc ≤ 65535) (hs : sailB first ps forged = false) :
    Calls Try.prog 7 #[.agg #[.string first, .slice A ps.length cap, .int .i64 forged], .agg #[.int .u8 xa, .int .u8 xb, .int .u16 xc]] w fun e w' => e = .returned (.bool true) ∧ Below w.heap.size w w' := by
  obtain ⟨W1, hW1⟩ : ∃ W1, (w.alloc (.cells #[.string first, .slice A ps.length cap, .int .i64 forged] 24)).alloc (.cells #[.int .u8 xa, .int .u8 xb, .int .u16 xc] 64) = W1 := ⟨_, rfl⟩
  have hb0 : Below w.heap.size w W1 := by rw [← hW1]; exact belowA (belowA (belowR _) _) _
  have p0 : W1.cell? ⟨w.heap.size, 0, none⟩ = some (.string first) := by rw [← hW1]; clear hW1; go_simp
  have p1 : W1.cell? ⟨w.heap.size, 1, none⟩ = some (.slice A ps.length cap) := by rw [← hW1]; clear hW1; go_simp
  have p2 : W1.cell? ⟨w.heap.size, 2, none⟩ = some (.int .i64 forged) := by rw [← hW1]; clear hW1; go_simp
  have x2 : W1.cell? ⟨w.heap.size + 1, 2, none⟩ = some (.int .u16 xc) := by rw [← hW1]; clear hW1; go_simp
  have HB0 := Lib.hid hb0
  have hz1 := hb0.size
  have hday : xc % 40001 < 40001 := Nat.mod_lt _ (by omega)
  obtain ⟨dy, hdy⟩ : ∃ d, xc % 40001 = d := ⟨_, rfl⟩
  have hmod : (xc : Int) % 40001 = (dy : Int) := by rw [← hdy]; simp
  have hwc : IntKind.i64.wrap (xc : Int) = (xc : Int) := by rw [IntKind.wrap_i64]; omega
  have hE : shipErr first ps forged ≠ 0 := by simpa [sailB] using hs
  have hO : openE first ps forged dy ≠ 0 := by unfold openE; rw [if_neg hE]; exact hE
  have how := owners_no first A ps B cap forged dy W1 hf (Nat.le_trans hm hcm) hok (hR.below hb0 hB) (by omega) hO
  have hsa := fun W (hR : RdN 3 encPap W B A ps) (hB : B ≤ W.heap.size) => sailing_any first A ps B cap forged W hf (Nat.le_trans hm hcm) hok hR hB
  obtain ⟨E, hEE⟩ : ∃ E, openE first ps forged dy = E := ⟨_, rfl⟩
  rw [hEE] at how hO
  rw [hs] at hsa
  have hne : (E != 0) = true := by simpa using hO
  have HOW := Lib.hid how
  have HSA := Lib.hid hsa
  have HR1 := Lib.hid (hR.below hb0 hB)
  clear how hsa hs hR hb0 hE hO hEE hdy
  go_enter Try.func7, Try.ntmps7
  go_wp2_with fail
  refine HOW.out.mono ?_
  rintro e w1 ⟨rfl, hb1⟩
  have p0 := keepC hb1 p0
  have p1 := keepC hb1 p1
  have p2 := keepC hb1 p2
  have HR2 := Lib.hid (HR1.out.below hb1 (by omega))
  have hz2 := hb1.size
  have HB1 := Lib.hid (belowT HB0.out hb1)
  clear hb1 hW1 x2
  go_wp2_with fail
  refine (HSA.out w1 HR2.out (by omega)).mono ?_
  rintro e w2 ⟨rfl, hb2⟩
  have HB2 := Lib.hid (belowT HB1.out hb2)
  clear hb2 p0 p1 p2
  go_wp2_with fail
  refine (awake_any _).mono ?_
  rintro e w3 ⟨rfl, hb3⟩
  go_wp2
  go_ret
  exact ⟨rfl, belowT HB2.out hb3⟩

set_option maxRecDepth 1000000 in
set_option maxHeartbeats 8000000 in
theorem anyLaw_yes (first : ByteArray) (A : Option Addr) (ps : List Pap) (B cap : Nat) (forged : Int) (xa xb xc : Nat) (w : World) (hf : first.size ≤ maxLen) (hm : ps.length ≤ cap) (hcm : cap ≤ maxLen) (hok : PapsOk ps) (hR : RdN 3 encPap w B A ps) (hB : B ≤ w.heap.size)
    (hxa : xa ≤ 255) (hxb : xb ≤ 255) (hxc : xc ≤ 65535) (hs : sailB first ps forged = true) :
    Calls Try.prog 7 #[.agg #[.string first, .slice A ps.length cap, .int .i64 forged], .agg #[.int .u8 xa, .int .u8 xb, .int .u16 xc]] w fun e w' => e = .returned (.bool true) ∧ Below w.heap.size w w' := by
  have hE : shipErr first ps forged = 0 := by simpa [sailB] using hs
  have hship := shipErr_ok hE
  have hn8 := hship.len
  have hdays := hship.days
  obtain ⟨hf0, hf8'⟩ := inB_t hship.forged
  obtain ⟨f, rfl⟩ : ∃ f : Nat, forged = f := ⟨forged.toNat, by omega⟩
  have hf8 : f ≤ 8 := by omega
  obtain ⟨W1, hW1⟩ : ∃ W1, (w.alloc (.cells #[.string first, .slice A ps.length cap, .int .i64 f] 24)).alloc (.cells #[.int .u8 xa, .int .u8 xb, .int .u16 xc] 64) = W1 := ⟨_, rfl⟩
  have hb0 : Below w.heap.size w W1 := by rw [← hW1]; exact belowA (belowA (belowR _) _) _
  have p0 : W1.cell? ⟨w.heap.size, 0, none⟩ = some (.string first) := by rw [← hW1]; clear hW1; go_simp
  have p1 : W1.cell? ⟨w.heap.size, 1, none⟩ = some (.slice A ps.length cap) := by rw [← hW1]; clear hW1; go_simp
  have p2 : W1.cell? ⟨w.heap.size, 2, none⟩ = some (.int .i64 f) := by rw [← hW1]; clear hW1; go_simp
  have x0 : W1.cell? ⟨w.heap.size + 1, 0, none⟩ = some (.int .u8 xa) := by rw [← hW1]; clear hW1; go_simp
  have x1 : W1.cell? ⟨w.heap.size + 1, 1, none⟩ = some (.int .u8 xb) := by rw [← hW1]; clear hW1; go_simp
  have x2 : W1.cell? ⟨w.heap.size + 1, 2, none⟩ = some (.int .u16 xc) := by rw [← hW1]; clear hW1; go_simp
  have HB0 := Lib.hid hb0
  have hz1 : w.heap.size + 1 < W1.heap.size := lt_of_cell x0
  have hday : xc % 40001 < 40001 := Nat.mod_lt _ (by omega)
  obtain ⟨dy, hdy⟩ : ∃ d, xc % 40001 = d := ⟨_, rfl⟩
  rw [hdy] at hday
  have hmod : (xc : Int) % 40001 = (dy : Int) := by rw [← hdy]; simp
  have hin : inB 0 40000 (dy : Int) = true := inB_mk (by omega) (by omega)
  have hwc : IntKind.i64.wrap (xc : Int) = (xc : Int) := by rw [IntKind.wrap_i64]; omega
  have hwb : IntKind.i64.wrap (xb : Int) = (xb : Int) := by rw [IntKind.wrap_i64]; omega
  have hop := openE_mk hship hin
  have how := fun W (hR : RdN 3 encPap W B A ps) (hB : B ≤ W.heap.size) => owners_yes first A ps B cap f dy W hf (Nat.le_trans hm hcm) hok hR hB hop hf8 hn8
  unfold OwnersPost at how
  have hfg := fun name W (hR : RdN 3 encPap W B A ps) (hB : B ≤ W.heap.size) => forged_yes first A ps B cap f dy name W hf (Nat.le_trans hm hcm) hok hR hB hop hf8 hn8
  unfold ForgedPost at hfg
  have hsa := fun W (hR : RdN 3 encPap W B A ps) (hB : B ≤ W.heap.size) => sailing_any first A ps B cap f W hf (Nat.le_trans hm hcm) hok hR hB
  rw [hs] at hsa
  have hav := fun W => anyForged_any first A ps.length cap f xa W hn8 hf8 hxa
  obtain ⟨hga, hgf⟩ := firstF_spec xa f ps.length
  have hgin := firstF_in xa f ps.length
  have hgb := bitsS_le hga hn8
  have hgm := bitsS_many hga hn8
  have href := fun (t o : List Nat) W (ht : Asc t ps.length) (ho : IsOrder ps dy o) (hR : RdN 3 encPap W B A ps) (hB : B ≤ W.heap.size) => refOwner_any first A ps B cap f dy (bitsS t) o t W hn8 hdays (by have := bitsS_le ht hn8; omega) ho (fun i _ => (bitsS_has ht i).symm) hR hB
  obtain ⟨G, hG⟩ : ∃ G, firstF xa f ps.length = G := ⟨_, rfl⟩
  rw [hG] at hga hgf hgin hgb hgm hav
  have HOW := Lib.hid how
  have HFG := Lib.hid hfg
  have HSA := Lib.hid hsa
  have HAV := Lib.hid hav
  have HREF := Lib.hid href
  have HGA := Lib.hid hga
  have HGIN := Lib.hid hgin
  have HGM := Lib.hid hgm
  have HR1 := Lib.hid (hR.below hb0 hB)
  clear how hfg hsa hav href hga hgin hgm hR hb0 hs hE hop hship hdays hf0 hf8' hdy hin hG
  go_enter Try.func7, Try.ntmps7
  go_wp2_with fail
  refine (HOW.out W1 HR1.out (by omega)).mono ?_
  rintro e w1 ⟨hb1, o, os, A1, cap1, ho, rfl, hrd1, hsrt, hmem, hlen1⟩
  have p0 := keepC hb1 p0
  have p1 := keepC hb1 p1
  have p2 := keepC hb1 p2
  have x0 := keepC hb1 x0
  have x1 := keepC hb1 x1
  have hz2 := hb1.size
  have HB1 := Lib.hid (belowT HB0.out hb1)
  have HR2 := Lib.hid (HR1.out.below hb1 (by omega))
  have HO := Lib.hid ho
  have HS := Lib.hid hsrt
  have HM := Lib.hid hmem
  have HRD1 := Lib.hid hrd1
  have hfew : os.length ≤ 9 := by have := owners_fewA hsrt hmem; omega
  have hgo : bs (ownerL first ps o G) ∈ os := (hmem _).2 ⟨G, HGIN.out, rfl⟩
  have hpos : 0 < os.length := List.length_pos_of_mem hgo
  have HGO := Lib.hid hgo
  clear hb1 hW1 x2 ho hsrt hmem hrd1 hgo hlen1 HR1
  go_wp2_with fail
  refine (HSA.out w1 HR2.out (by omega)).mono ?_
  rintro e w2 ⟨rfl, hb2⟩
  have p0 := keepC hb2 p0
  have p1 := keepC hb2 p1
  have p2 := keepC hb2 p2
  have x0 := keepC hb2 x0
  have x1 := keepC hb2 x1
  have hz3 := hb2.size
  have HB2 := Lib.hid (belowT HB1.out hb2)
  have HR3 := Lib.hid (HR2.out.below hb2 (by omega))
  have HRD2 := Lib.hid (HRD1.out.below hb2 (Nat.le_refl _))
  have hwa : IntKind.i64.wrap (xa : Int) = (xa : Int) := by rw [IntKind.wrap_i64]; omega
  have hlne : ((os.length : Int) == 0) = false := beq_eq_false_iff_ne.2 (by omega)
  have hosm : os.length ≤ maxLen := by unfold maxLen; omega
  clear hb2 HR2 HRD1 HB1
  go_upto_region 5 with fail
  go_region_held3 (fun w' => w'.cell? ⟨w.heap.size, 0, none⟩ = some (.string first) ∧ w'.cell? ⟨w.heap.size, 1, none⟩ = some (.slice A ps.length cap) ∧ w'.cell? ⟨w.heap.size, 2, none⟩ = some (.int .i64 f) ∧ w'.cell? ⟨w.heap.size + 1, 0, none⟩ = some (.int .u8 xa)) (first | exact ⟨p0, p1, p2, x0⟩ | exact ⟨keepC hb4 (keepC hb3 p0), keepC hb4 (keepC hb3 p1), keepC hb4 (keepC hb3 p2), keepC hb4 (keepC hb3 x0)⟩ | exact ⟨keepC hb3 p0, keepC hb3 p1, keepC hb3 p2, keepC hb3 x0⟩) (first | (go_at_call 44; ((with_reducible refine (HAV.out _).mono ?_); rintro e w3 ⟨rfl, hb3⟩)) | (go_at_call 43; (refine (HREF.out G o w3 HGA.out HO.out (HR3.out.below (undrew0 hb3) (by omega)) (by have := hb3.size; simp at this; omega)).mono ?_); rintro e w4 ⟨rfl, hb4⟩) | (go_at_call 42; (refine (named_yesB A1 os w1.heap.size cap1 _ w4 hosm ((HRD2.out.below (undrew0 hb3) (by omega)).below hb4 (by have := hb3.size; simp at this; omega)) HGO.out).mono ?_); rintro e w5 ⟨rfl, rfl⟩))
  have hB5 : Below w2.heap.size w2 w4 := belowT (undrew0 hb3) hb4
  have p0 := keepC hB5 p0
  have p1 := keepC hB5 p1
  have p2 := keepC hB5 p2
  have x0 := keepC hB5 x0
  have x1 := keepC hB5 x1
  have hz4 := hB5.size
  have HB5 := Lib.hid (belowT HB2.out hB5)
  have HR5 := Lib.hid (HR3.out.below hB5 (by omega))
  have HRD5 := Lib.hid (HRD2.out.below hB5 (by omega))
  clear hb3 hb4 hB5 HR3 HRD2 HB2 HGO
  go_wp2
  go_loopw [8] (fun vi wr => ∃ i : Nat, 1 ≤ i ∧ i ≤ os.length ∧ vi = .int .i64 i ∧ Hid (Below w4.heap.size w4 wr)) (fun vi _ => os.length - (intOf vi).toNat)
  case atStart => exact ⟨1, Nat.le_refl _, by omega, rfl, Lib.hid (belowR _)⟩
  case round =>
    obtain ⟨i, hi1, hi, rfl, HBR⟩ := hrel
    have hzr := HBR.out.size
    by_cases hlt : i < os.length
    · obtain ⟨x, hx⟩ : ∃ x, os[i]? = some x := ⟨_, List.getElem?_eq_getElem hlt⟩
      obtain ⟨y, hy⟩ : ∃ y, os[i - 1]? = some y := ⟨_, List.getElem?_eq_getElem (by omega)⟩
      obtain ⟨b9, o9, rfl, _, d9⟩ := (HRD5.out.below HBR.out (by omega)) i x hx
      obtain ⟨b9', o9', ee, _, d8⟩ := (HRD5.out.below HBR.out (by omega)) (i - 1) y hy
      injection ee with ee
      injection ee with ee1 ee2
      subst ee1 ee2
      have d9 : wr.cell? ⟨b9, o9 + i, none⟩ = some (.string ⟨x.toArray⟩) := d9
      have d8 : wr.cell? ⟨b9, o9 + (i - 1), none⟩ = some (.string ⟨y.toArray⟩) := d8
      have hyx : y < x := by
        have := List.pairwise_iff_getElem.1 HS.out (i - 1) i (by omega) hlt (by omega)
        rw [List.getElem?_eq_getElem hlt] at hx
        rw [List.getElem?_eq_getElem (by omega)] at hy
        injection hx with hx
        injection hy with hy
        rw [hx, hy] at this
        exact this
      have hb1 : Op.bytesLess x y = false := by
        rw [bytesLess_eq]
        simp only [decide_eq_false_iff_not]
        exact fun h => List.lt_irrefl _ (List.lt_trans h hyx)
      have hb2 : (x == y) = false := by
        simp only [beq_eq_false_iff_ne]
        exact fun h => List.lt_irrefl _ (h ▸ hyx)
      have hiz : (i : Int) < (os.length : Int) := by omega
      have hi0 : (0 : Int) ≤ (i : Int) := by omega
      have hi2 : (i : Int) - 1 < (os.length : Int) := by omega
      have hi3 : (0 : Int) ≤ (i : Int) - 1 := by omega
      have hi4 : (1 : Int) ≤ (i : Int) := by omega
      have hnat : ((i : Int) - 1).toNat = i - 1 := by omega
      have hws : IntKind.i64.wrap ((i : Int) - 1) = (i : Int) - 1 := by rw [IntKind.wrap_i64]; omega
      clear hx hy hyx
      go_upto_region 10 with fail
      go_quiet (fail)
      clear hws hnat hb1 hb2
      go_wp2
      go_roundw
      case rel => exact ⟨i + 1, by omega, by omega, by go_num, Lib.hid (belowN HBR.out _)⟩
      case measure => simp [intOf]; omega
    · obtain rfl : i = os.length := by omega
      have hwb2 : xb % os.length < os.length := Nat.mod_lt _ hpos
      obtain ⟨wb, hwbe⟩ : ∃ d, xb % os.length = d := ⟨_, rfl⟩
      rw [hwbe] at hwb2
      have hmodb : (xb : Int) % (os.length : Int) = (wb : Int) := by rw [← hwbe]; simp
      obtain ⟨x, hx⟩ : ∃ x, os[wb]? = some x := ⟨_, List.getElem?_eq_getElem hwb2⟩
      obtain ⟨b9, o9, rfl, _, d9⟩ := (HRD5.out.below HBR.out (by omega)) wb x hx
      have d9 : wr.cell? ⟨b9, o9 + wb, none⟩ = some (.string ⟨x.toArray⟩) := d9
      have p0 := keepC HBR.out p0
      have p1 := keepC HBR.out p1
      have p2 := keepC HBR.out p2
      have x0 := keepC HBR.out x0
      have x1 := keepC HBR.out x1
      have HR6 := Lib.hid (HR5.out.below HBR.out (by omega))
      have HB6 := Lib.hid (belowT HB5.out HBR.out)
      have hseen := (HM.out x).1 (List.mem_of_getElem? hx)
      have HSEEN := Lib.hid hseen
      have hbz : (wb : Int) < (os.length : Int) := by omega
      have hb0 : (0 : Int) ≤ (wb : Int) := by omega
      have hlz : ((os.length : Int) == 0) = false := hlne
      clear hx hseen hwbe HBR HRD5 HR5 HB5
      go_wp2_with fail
      refine (HFG.out ⟨x.toArray⟩ wr HR6.out (by omega)).mono ?_
      rintro e w6 ⟨hb6, o6, ho6, hres⟩
      obtain rfl := ho6.unique HO.out
      rcases hres with ⟨hnone, _⟩ | ⟨s, A6, cap6, hsome, rfl, hrd6⟩
      · exfalso
        obtain ⟨s, hs⟩ := forgedF_seen (name := ⟨x.toArray⟩) (show Seen first ps o6 _ (bs ⟨x.toArray⟩) by rw [show bs ⟨x.toArray⟩ = x from bs_sb x]; exact HSEEN.out)
        rw [hnone] at hs
        cases hs
      · obtain ⟨hsa, hsf, hso, hsl⟩ := forgedF_some hsome
        have p0 := keepC hb6 p0
        have p1 := keepC hb6 p1
        have p2 := keepC hb6 p2
        have x0 := keepC hb6 x0
        have hz6 := hb6.size
        have HR7 := Lib.hid (HR6.out.below hb6 (by omega))
        have HB7 := Lib.hid (belowT HB6.out hb6)
        have HRD6 := Lib.hid hrd6
        have HSA6 := Lib.hid hsa
        have HSO := Lib.hid hso
        have HSL := Lib.hid hsl
        have hs8 : s.length ≤ 8 := by omega
        have hd1 : decide ((f : Int) < (s.length : Int)) = false := by simp; omega
        have hd2 : decide (f < s.length) = false := by simp; omega
        clear hb6 hrd6 hsa hso hsl hsome ho6 d9 x1 HR6 HB6
        go_wp2
        go_loopw [12, 13] (fun vs vi wz => ∃ k : Nat, k ≤ s.length ∧ vi = .int .i64 k ∧ vs = .int .i64 (bitsS (s.take k) : Nat) ∧ Hid (Below w6.heap.size w6 wz)) (fun _ vi _ => s.length - (intOf vi).toNat)
        case atStart => exact ⟨0, Nat.zero_le _, rfl, rfl, Lib.hid (belowR _)⟩
        case round =>
          obtain ⟨k, hk, rfl, rfl, HBZ⟩ := hrel
          have p0 := keepC HBZ.out p0
          have p1 := keepC HBZ.out p1
          have p2 := keepC HBZ.out p2
          have x0 := keepC HBZ.out x0
          have hzz := HBZ.out.size
          by_cases hlt2 : k < s.length
          · obtain ⟨y, hy⟩ : ∃ y, s[k]? = some y := ⟨_, List.getElem?_eq_getElem hlt2⟩
            have hyn := HSA6.out.2 y (List.mem_of_getElem? hy)
            obtain ⟨b7, o7, rfl, _, d7⟩ := (HRD6.out.below HBZ.out (Nat.le_refl _)) k y hy
            have htk : bitsS (s.take (k + 1)) = bitsS (s.take k) + 2 ^ y := by rw [List.take_add_one, hy]; exact bitsS_snoc _ _
            have hsb := bitsS_le (asc_take HSA6.out k) hn8
            have h2y : 2 ^ y ≤ 256 := by
              have : 2 ^ y ≤ 2 ^ 8 := Nat.pow_le_pow_right (by omega) (by omega)
              omega
            have hcb := fun W => bit_any y W (by omega)
            have hprev : 0 < k → ∃ z, s[k - 1]? = some z ∧ z < y := fun h0 => by
              refine ⟨s[k - 1]'(by omega), List.getElem?_eq_getElem (by omega), ?_⟩
              have := List.pairwise_iff_getElem.1 HSA6.out.1 (k - 1) k (by omega) hlt2 (by omega)
              rw [List.getElem?_eq_getElem hlt2] at hy
              injection hy with hy
              rw [hy] at this
              exact this
            obtain ⟨S, hS⟩ : ∃ S, bitsS (s.take k) = S := ⟨_, rfl⟩
            obtain ⟨P2, hP2⟩ : ∃ p, 2 ^ y = p := ⟨_, rfl⟩
            rw [hS] at htk hsb ⊢
            rw [hP2] at htk h2y hcb
            have HTK := Lib.hid htk
            have HCB := Lib.hid hcb
            have hkz : (k : Int) < (s.length : Int) := by omega
            have hk0 : (0 : Int) ≤ (k : Int) := by omega
            have hy0 : decide ((y : Int) < 0) = false := by simp
            have hy1 : decide ((ps.length : Int) ≤ (y : Int)) = false := by simp; omega
            have hy2 : decide (ps.length ≤ y) = false := by simp; omega
            clear htk hcb hS hP2 hy
            by_cases hk00 : k = 0
            · subst hk00
              have d7 : wr.cell? ⟨b7, o7, none⟩ = some (nv y) := d7
              have hsz : (0 : Int) < (s.length : Int) := by omega
              have hsz2 : 0 < s.length := hlt2
              clear hprev
              go_upto_region 20 with fail
              go_quiet (fail)
              go_wp2_with fail
              refine (HCB.out _).mono ?_
              rintro e w9 ⟨rfl, rfl⟩
              go_wp2
              go_roundw
              case rel => exact ⟨0 + 1, by omega, by go_num, by rw [HTK.out]; go_num, Lib.hid (belowN HBZ.out _)⟩
              case measure => simp [intOf]; omega
            · obtain ⟨z, hz, hzy⟩ := hprev (by omega)
              obtain ⟨b7', o7', ee, _, d8⟩ := (HRD6.out.below HBZ.out (Nat.le_refl _)) (k - 1) z hz
              injection ee with ee
              injection ee with ee1 ee2
              subst ee1 ee2
              have hz1 : decide ((y : Int) ≤ (z : Int)) = false := by simp; omega
              have hz2 : decide (y ≤ z) = false := by simp; omega
              have hk01 : decide ((0 : Int) < (k : Int)) = true := by simp; omega
              have hk02 : decide (0 < k) = true := by simp; omega
              have hk1 : (0 : Int) ≤ (k : Int) - 1 := by omega
              have hk2 : (k : Int) - 1 < (s.length : Int) := by omega
              have hnat : ((k : Int) - 1).toNat = k - 1 := by omega
              have hws : IntKind.i64.wrap ((k : Int) - 1) = (k : Int) - 1 := by rw [IntKind.wrap_i64]; omega
              clear hz hzy hprev
              go_upto_region 20 with fail
              go_quiet (fail)
              clear hnat hws
              go_wp2_with fail
              refine (HCB.out _).mono ?_
              rintro e w9 ⟨rfl, rfl⟩
              go_wp2
              go_roundw
              case rel => exact ⟨k + 1, by omega, by go_num, by rw [HTK.out]; go_num, Lib.hid (belowN HBZ.out _)⟩
              case measure => simp [intOf]; omega
          · obtain rfl : k = s.length := by omega
            rw [List.take_length]
            have HR8 := Lib.hid (HR7.out.below HBZ.out (by omega))
            have HB8 := Lib.hid (belowT HB7.out HBZ.out)
            have href1 := fun W (hR : RdN 3 encPap W B A ps) (hB : B ≤ W.heap.size) => HREF.out s o6 W HSA6.out HO.out hR hB
            have href2 := fun W (hR : RdN 3 encPap W B A ps) (hB : B ≤ W.heap.size) => HREF.out G o6 W HGA.out HO.out hR hB
            rw [HSO.out] at href1
            have hmn := fun W => many_any (bitsS G) W (by omega)
            rw [HGM.out] at hmn
            have HREF1 := Lib.hid href1
            have HREF2 := Lib.hid href2
            have HMN := Lib.hid hmn
            have hneG : G.length < s.length → ((ownerL first ps o6 G).toList == x) = false := fun h => by
              simp only [beq_eq_false_iff_ne]
              intro e
              have e2 : ownerL first ps o6 G = ⟨x.toArray⟩ := toList_inj (by rw [e, ByteArray.toList_eq])
              have := HSL.out G HGIN.out e2
              omega
            obtain ⟨nG, hnG⟩ : ∃ n, ownerL first ps o6 G = n := ⟨_, rfl⟩
            rw [hnG] at hneG
            have HNG := Lib.hid hnG
            clear href1 href2 hmn hnG HREF
            go_wp2_with fail
            refine (HAV.out _).mono ?_
            rintro e w9 ⟨rfl, hb9⟩
            have p0 := keepC hb9 p0
            have p1 := keepC hb9 p1
            have p2 := keepC hb9 p2
            have hz9 := hb9.size
            have HR9 := Lib.hid (HR8.out.below hb9 (by omega))
            have HB9 := Lib.hid (belowT HB8.out hb9)
            clear hb9 x0 HR8 HB8
            go_wp2_with fail
            refine (HREF1.out w9 HR9.out (by omega)).mono ?_
            rintro e w10 ⟨rfl, hb10⟩
            have p0 := keepC hb10 p0
            have p1 := keepC hb10 p1
            have p2 := keepC hb10 p2
            have hz10 := hb10.size
            have HR10 := Lib.hid (HR9.out.below hb10 (by omega))
            have HB10 := Lib.hid (belowT HB9.out hb10)
            clear hb10 HR9 HB9
            by_cases hle : s.length ≤ G.length
            · have hl1 : decide ((s.length : Int) ≤ (G.length : Int)) = true := by simpa using hle
              have hl2 : decide (s.length ≤ G.length) = true := by simpa using hle
              clear hneG
              go_wp2_with fail
              refine (HMN.out _).mono ?_
              rintro e w11 ⟨rfl, rfl⟩
              go_wp2_with fail
              refine (awake_any _).mono ?_
              rintro e w12 ⟨rfl, hb12⟩
              go_wp2
              go_ret
              exact ⟨rfl, belowT HB10.out hb12⟩
            · have hl1 : decide ((s.length : Int) ≤ (G.length : Int)) = false := by simpa using hle
              have hl2 : decide (s.length ≤ G.length) = false := by simpa using hle
              have hn1 := hneG (by omega)
              have hl3 : G.length < s.length := by omega
              clear hneG
              go_wp2_with fail
              refine (HMN.out _).mono ?_
              rintro e w11 ⟨rfl, rfl⟩
              go_wp2_with fail
              have h2 := HREF2.out w10 HR10.out (by omega)
              rw [HNG.out] at h2
              refine h2.mono ?_
              rintro e w11 ⟨rfl, hb11⟩
              clear h2
              have HB11 := Lib.hid (belowT HB10.out hb11)
              clear hb11
              go_wp2_with fail
              refine (awake_any _).mono ?_
              rintro e w12 ⟨rfl, hb12⟩
              go_wp2
              go_ret
              exact ⟨rfl, belowT HB11.out hb12⟩

theorem anyLaw_any (first : ByteArray) (A : Option Addr) (ps : List Pap) (B cap : Nat) (forged : Int) (xa xb xc : Nat) (w : World) (hf : first.size ≤ maxLen) (hm : ps.length ≤ cap) (hcm : cap ≤ maxLen) (hok : PapsOk ps) (hR : RdN 3 encPap w B A ps) (hB : B ≤ w.heap.size) (_hA : A = none → ps = [] ∧ cap = 0)
    (hxa : xa ≤ 255) (hxb : xb ≤ 255) (hxc : xc ≤ 65535) :
    Calls Try.prog 7 #[.agg #[.string first, .slice A ps.length cap, .int .i64 forged], .agg #[.int .u8 xa, .int .u8 xb, .int .u16 xc]] w fun e w' => e = .returned (.bool true) ∧ Below w.heap.size w w' := by
  cases hs : sailB first ps forged
  · exact anyLaw_no first A ps B cap forged xa xb xc w hf hm hcm hok hR hB hxc hs
  · exact anyLaw_yes first A ps B cap forged xa xb xc w hf hm hcm hok hR hB hxa hxb hxc hs
end Go.Proofs.Ytblbbhenmhkknaa
