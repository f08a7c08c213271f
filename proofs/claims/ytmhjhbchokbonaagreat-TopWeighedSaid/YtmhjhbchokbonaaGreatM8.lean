/- The reference's raised, Agrees and all. The reference's Block, weighed, Agrees, all. The reference's filled (printed by mkR8.py). The reference's weighed. The reference's Most, least, Weighings. The reference's Weighings: it answers what block.open does. The laws' helpers: sets, hung. The laws' helpers: Truth, Told. -/
import Derived.Test.YtmhjhbchokbonaaGreatM0
import Derived.Test.YtmhjhbchokbonaaGreatM5
import Derived.Test.YtmhjhbchokbonaaGreatM7
set_option maxRecDepth 1000000
set_option maxHeartbeats 16000000
namespace Go.Proofs.YtmhjhbchokbonaaGreat
open Go.RowKit
theorem addr_add (b o j : Nat) : ((⟨b, o, none⟩ : Addr).add j) = ⟨b, o + j, none⟩ := by
 unfold Addr.add
 rcases Nat.eq_zero_or_pos j with rfl | hj
 ·rfl
 ·rw [if_neg (by omega)]
theorem rd1_news {α : Type} {enc : α → Value} {W : World} {B bd od : Nat} {xs : List α} (h : Rd1 enc W B (some ⟨bd, od, none⟩) xs) : ∀ j u, (xs.map enc)[j]? = some u → W.cell? ((⟨bd, od, none⟩ : Addr).add j) = some u := fun j u hu => by
 rw [List.getElem?_map] at hu
 cases hx : xs[j]? with
 | none => rw [hx] at hu; simp at hu
 | some x =>
  rw [hx] at hu
  simp only [Option.map_some, Option.some.injEq] at hu
  subst hu
  obtain ⟨b', o', ee, _, hc⟩ := h j x hx
  injection ee with ee
  injection ee with ee1 ee2
  subst ee1 ee2
  rw [addr_add]
  exact hc
theorem rowW_upd (w : Nat → Int) (k : Nat) (v : Int) (n : Nat) : rowW (upd w k v) n = (rowW w n).set k v := by
 apply List.ext_getElem?
 intro i
 rw [List.getElem?_set]
 rcases Nat.lt_or_ge i n with hi | hi
 ·rw [rowW_at _ hi, rowW_len]
  by_cases hik : k = i
  ·subst hik
   rw [if_pos rfl, if_pos hi, upd_self]
  ·rw [if_neg hik, upd_ne (fun e => hik e.symm), rowW_at _ hi]
 ·have h1 : (rowW (upd w k v) n)[i]? = none := by rw [List.getElem?_eq_none]; rw [rowW_len]; exact hi
  have h2 : (rowW w n)[i]? = none := by rw [List.getElem?_eq_none]; rw [rowW_len]; exact hi
  rw [h1, h2, rowW_len]
  split
  ·rw [if_neg (by omega)]
  ·rfl
theorem raisedTo_bd (h : Hul) (l : List Wgh) (s : Nat) (w : Nat → Int) {m : Int} (h0 : -5000000 ≤ m) (h1 : m ≤ 5000000) : ∀ k, -5000000 ≤ (raisedTo h l s w m k).2 ∧ (raisedTo h l s w m k).2 ≤ 5000000 := by
 intro k
 induction k with
 | zero => exact ⟨h0, h1⟩
 | succ k ih =>
  rw [raisedTo_succ]
  split
  ·simp only
   have a := roomF_ge h l (raisedTo h l s w m k).1 k (raisedTo h l s w m k).2
   rcases Int.lt_or_le 0 (roomF h l (raisedTo h l s w m k).1 k (raisedTo h l s w m k).2) with h3 | h3
   ·have := (roomF_le h3).1; omega
   ·omega
  ·exact ih
def RowPost (wt : Nat → Int) (n : Nat) (w : World) (e : Ending) (w' : World) : Prop :=
 BW w w' ∧ ∃ g cap, e = .returned (.slice (some ⟨g, 0, none⟩) n cap) ∧ w'.ownsRow w.heap.size 3 1 (.slice (some ⟨g, 0, none⟩) n cap) n ((rowW wt n).map iv)
theorem row_rd {wt : Nat → Int} {n g cap base : Nat} {w : World} (h : w.ownsRow base 3 1 (.slice (some ⟨g, 0, none⟩) n cap) n ((rowW wt n).map iv)) : Rd1 iv w w.heap.size (some ⟨g, 0, none⟩) (rowW wt n) := by
 have hl := rowW_len wt n
 have h' : w.ownsRow base 3 1 (.slice (some ⟨g, 0, none⟩) n cap) (rowW wt n).length ((rowW wt n).map iv) := by rw [hl]; exact h
 obtain ⟨A, cap', hv, hR, _⟩ := own_rd1 h'
 injection hv with h1
 rw [h1]
 exact hR
theorem raised_any (h : Hul) (A J : Option Addr) (B cap capJ : Nat) (AL : Option Addr) (l : List Wgh) (capL : Nat) (AW : Option Addr) (wt : Nat → Int) (capW s : Nat) (most : Int) (w : World)
  (hH : HulRd w B h A cap J capJ) (hk : HulOk h) (hL : RdN 3 encWgh w B AL l) (hw : WghsOk h.ps.length l) (hW : Rd1 iv w w.heap.size AW (rowW wt h.ps.length)) (hb : Box h wt)
  (hs : s < 256) (hm0 : -5000000 ≤ most) (hm1 : most ≤ 5000000) (hB : B ≤ w.heap.size) :
  Calls Tryz.prog 84 #[hv h A cap J capJ, .slice AL l.length capL, .slice AW h.ps.length capW, iv s, iv most] w (RowPost (raised h l wt s most) h.ps.length w) := by
 obtain ⟨i3, hi3, hz30, hz31, hz32⟩ := info_parts Tryz.info3
 obtain ⟨W1, hW1, hb0, hz1, p0, p1, p2, p3, p4⟩ := hulBox w h A cap J capJ
 have hn8 := hk.n8
 have hn1 := hk.n1
 obtain ⟨bd, od, rfl, hbd, _⟩ := hW 0 (wt 0) (rowW_at wt hn1)
 have HKP : Hid (∀ W, BW W1 W → W.cell? ⟨w.heap.size, 0, none⟩ = some (.slice A h.ps.length cap) ∧ W.cell? ⟨w.heap.size, 1, none⟩ = some (.slice J h.js.length capJ) ∧ W.cell? ⟨w.heap.size, 2, none⟩ = some (iv h.slo) ∧ W.cell? ⟨w.heap.size, 3, none⟩ = some (iv h.shi) ∧ W.cell? ⟨w.heap.size, 4, none⟩ = some (iv h.winch)) := Lq fun W hb => ⟨keepC hb p0, keepC hb p1, keepC hb p2, keepC hb p3, keepC hb p4⟩
 have hlit : (W1.alloc (.cells #[] 3)).ownsRow W1.heap.size 3 1 (.slice (some ⟨W1.heap.size, 0, none⟩) 0 0) 0 [] := World.ownsRow_lit W1 #[] 0 (Nat.le_refl _) (Nat.zero_le _) rfl
 have hrow1 := rowW_on hW hb0
 have hnews := rd1_news (hrow1.below (belowA (belowR W1) (.cells #[] 3)) hb0.size)
 have hdlen : ((rowW wt h.ps.length).map iv).length = h.ps.length * 1 := by rw [List.length_map, rowW_len, Nat.mul_one]
 have honec : ∀ u ∈ (rowW wt h.ps.length).map iv, u.oneCell' = true := fun u hu => by
  obtain ⟨x, _, rfl⟩ := List.mem_map.1 hu
  rfl
 have HLIT := Lq hlit
 have HNEWS := Lq hnews
 have HDLEN := Lq hdlen
 have HONE := Lq honec
 have HH := Lq (hH.below hb0 hB)
 have HL := Lq (hL.below hb0 hB)
 have HWO := Lq hw
 have HK := Lq hk
 have HBX := Lq hb
 have HB0 := Lq hb0
 have HBD := Lq (raisedTo_bd h l s wt hm0 hm1)
 have hBz : B ≤ W1.heap.size := Nat.le_trans hB hb0.size
 have hzW : w.heap.size ≤ W1.heap.size := hb0.size
 have hd0 : decide (0 < h.ps.length) = true := decide_eq_true hn1
 have HFIN : Hid (∀ e w', RowPost (raisedTo h l s wt most h.ps.length).1 h.ps.length w e w' → RowPost (raised h l wt s most) h.ps.length w e w') := Lq fun _ _ h => h
 obtain ⟨POST, hPOST⟩ := ex (RowPost (raised h l wt s most) h.ps.length w)
 rw [hPOST] at HFIN ⊢
 have HFB := Lq hPOST
 have HZ1 : Hid (w.heap.size < W1.heap.size) := Lq (by omega)
 clear hz1 hb0 hH hL hw hW hb hlit hnews hdlen honec hrow1 hk p0 p1 p2 p3 p4 hPOST
 go_enter Tryz.func84, Tryz.ntmps84
 go_wp2_with (at_builtin; refine wpList_append_own _ rfl _ _ 47 rfl W1.heap.size 3 i3 (iv 0) 1 8 Tryz.underlying47 hi3 hz30 hz31 hz32 rfl (by decide) _ _ _ rfl HLIT.out ⟨bd, od, none⟩ h.ps.length capW ((rowW wt h.ps.length).map iv) rfl HDLEN.out ?c1 ?c2 ?c3 ?c4 ?c5 ?_)
 case c1 => exact HNEWS.out
 case c2 => exact HONE.out
 case c3 => unfold maxLen; omega
 case c4 => omega
 case c5 => simp
 intro v' w2 hown2 hgrow _
 have hB2 : BW W1 w2 := grownB HLIT.out hgrow (Nat.le_refl _) (belowA (belowR _) _)
 obtain ⟨g, cap2, rfl, hgb, hgl, _⟩ := own_form hown2 hn1
 have HO2 := Lq hown2
 have HB2 := Lq hB2
 clear hown2 hgrow hB2 hW1 HLIT HNEWS HDLEN HONE
 go_wp2_with fail
 have hzz : W1.heap.size ≤ w2.heap.size := HB2.out.size
 have hz3 : w.heap.size < W1.heap.size := HZ1.out
 clear hd0
 go_loopw [4, 12] (fun vm vi wr => ∃ (k : Nat) (m : Int), k ≤ h.ps.length ∧ vi = iv k ∧ vm = iv m ∧ Hid ((raisedTo h l s wt most k).2 = m) ∧ Hid (wr.ownsRow W1.heap.size 3 1 (.slice (some ⟨g, 0, none⟩) h.ps.length cap2) h.ps.length ((rowW (raisedTo h l s wt most k).1 h.ps.length).map iv)) ∧ Hid (BW W1 wr)) (fun _ vi _ => h.ps.length - (intOf vi).toNat)
 case atStart => exact ⟨0, most, Nat.zero_le _, rfl, rfl, Lq rfl, HO2, HB2⟩
 case round =>
  obtain ⟨k, m, hk, rfl, rfl, HM, HO, HBR⟩ := hrel
  by_cases hlt : k < h.ps.length
  ·have hsu := raisedTo_succ h l s wt most k
   have hbd := HBD.out k
   have hbx := raisedTo_box l s most HBX.out k (by omega)
   have hbx2 := raisedTo_box l s most HBX.out (k + 1) (by omega)
   rw [HM.out] at hsu hbd
   obtain ⟨v, hv⟩ := ex ((raisedTo h l s wt most k).1)
   rw [hv] at hsu hbx HO
   have hk0 : (0 : Int) ≤ (k : Int) := by omega
   have hkn : (k : Int) < (h.ps.length : Int) := by omega
   obtain ⟨hbd0, hbd1⟩ := hbd
   cases hbit : s.testBit k
   ·rw [hbit] at hsu
    simp only [Bool.false_eq_true, if_false] at hsu
    have HSU := Lq hsu
    have HV := Lq hv
    clear hsu hbx hbx2 hv
    go_wp2_with (go_at_call 87; refine (has2_any _ _ _ hs (by omega)).mono ?_; rintro e w' ⟨rfl, rfl⟩)
    go_roundw
    case rel => exact ⟨k + 1, m, by omega, by go_num, rfl, Lq (by rw [HSU.out]; exact HM.out), Lq (by rw [HSU.out, HV.out]; exact HO.out), HBR⟩
    case measure => simp [intOf]; omega
   ·rw [hbit] at hsu
    simp only [if_true] at hsu
    have hzr := HBR.out.size
    have hrm := room_any h A J B cap capJ AL l capL (some ⟨g, 0, none⟩) v cap2 k m wr (HH.out.below HBR.out hBz) HK.out (HL.out.below HBR.out hBz) HWO.out (row_rd HO.out) (box_wt HK.out.ps hbx) hlt (by omega) (by omega) (Nat.le_trans hBz hzr)
    have hrg := roomF_ge h l v k m
    have hwk := box_wt HK.out.ps hbx k hlt
    have hwk2 := box_wt HK.out.ps hbx2 k hlt
    rw [hsu] at hwk2
    simp only [upd_self] at hwk2
    have hbd2 := HBD.out (k + 1)
    rw [hsu] at hbd2
    simp only at hbd2
    obtain ⟨r, hr⟩ := ex (roomF h l v k m)
    rw [hr] at hsu hrm hrg hwk2 hbd2
    obtain ⟨x, hx⟩ := ex (v k)
    rw [hx] at hwk hwk2 hsu
    obtain ⟨hwk0, hwk1⟩ := hwk
    obtain ⟨hwk2, hwk3⟩ := hwk2
    obtain ⟨hbd2, hbd3⟩ := hbd2
    have HSU := Lq hsu
    have HRM := Lq hrm
    have HV := Lq hv
    have HX := Lq hx
    obtain ⟨p0, p1, p2, p3, p4⟩ := HKP.out _ HBR.out
    clear hsu hbx hbx2 hv hrm hr hx
    go_wp2_with (go_at_call 87; refine (has2_any _ _ _ hs (by omega)).mono ?_; rintro e w' ⟨rfl, rfl⟩)
    refine HRM.out.mono ?_
    rintro e w3 ⟨rfl, hb3⟩
    have hown3 := own_below HO.out hb3
    obtain ⟨b9, o9, he9, _, hc3⟩ := row_rd hown3 k (v k) (rowW_at v hlt)
    injection he9 with he9
    injection he9 with he91 he92
    subst he91 he92
    rw [HX.out] at hc3
    have f3 := hown3.frozenAt k
    have HB3 := Lq (belowT HBR.out hb3)
    have HO3 := Lq hown3
    have hst : ∀ W : World, W.ownsRow W1.heap.size 3 1 (.slice (some ⟨g, 0, none⟩) h.ps.length cap2) h.ps.length ((rowW v h.ps.length).map iv) → (W.setCell ⟨g, k, none⟩ (iv (x + r))).ownsRow W1.heap.size 3 1 (.slice (some ⟨g, 0, none⟩) h.ps.length cap2) h.ps.length ((rowW (upd v k (x + r)) h.ps.length).map iv) := fun W hW => by
     have := (hW.stored k (iv (x + r))).1
     rw [rowW_upd, List.map_set]
     exact this
    have HST := Lq hst
    clear hst hb3 hown3 p0 p1 p2 p3 p4
    rw [Nat.zero_add] at hc3
    go_wp2_with fail
    go_roundw
    case rel => exact ⟨k + 1, m - r, by omega, by go_num, by go_num, Lq (by rw [HSU.out]), Lq (by rw [HSU.out]; exact HST.out _ HO3.out), Lq (belowS HB3.out hgb _)⟩
    case measure => simp [intOf]; omega
  ·go_wp2_with fail
   obtain rfl : k = h.ps.length := by omega
   exact HFIN.out _ _ ⟨belowT HB0.out HBR.out, g, cap2, rfl, own_base HO.out hzW⟩
theorem refBlock_any (h : Hul) (A J : Option Addr) (B cap capJ : Nat) (set : Int) (w : World) (hH : HulRd w B h A cap J capJ) (hn1 : 1 ≤ h.ps.length) (hn8 : h.ps.length ≤ 8) (hj : JsOk h.ps.length h.js) (hjl : h.js.length ≤ 12) (hB : B ≤ w.heap.size) :
  Calls Tryz.prog 82 #[hv h A cap J capJ, iv set] w fun e w' => e = .returned (iv (blockE h.ps.length h.js set)) ∧ BW w w' := by
 obtain ⟨W1, hW1, hb0, hzz, p0, p1, p2, p3, p4⟩ := hulBox w h A cap J capJ
 have hpm := hH.pm
 have hjm := hH.jm
 have hpl := hH.pl
 unfold maxLen at hpm hjm
 have hbe : blockE h.ps.length h.js set = if inB 1 (((2 ^ h.ps.length : Nat) : Int) - 1) set then (if hangsB h.js set.toNat then 0 else 6) else 4 := by unfold blockE; rw [Int.natCast_pow]; rfl
 obtain ⟨E, hE⟩ := ex (blockE h.ps.length h.js set)
 rw [hE] at hbe ⊢
 have hbi := fun W => bit_any h.ps.length W (by omega)
 have hpw : 2 ^ h.ps.length ≤ 256 := Nat.pow_le_pow_right (n := 2) (by decide) hn8
 have hHH := fun s (hs : s < 2 ^ h.ps.length) => refHangs_any h A J B cap capJ s W1 (hH.below hb0 hB) hn1 hn8 hj hjl hs (Nat.le_trans hB hb0.size)
 obtain ⟨P, hP⟩ : ∃ P : Nat, 2 ^ h.ps.length = P := ⟨_, rfl⟩
 rw [hP] at hbe hbi hpw hHH
 have HBI := Lq hbi
 have HB0 := Lq hb0
 have HHH := Lq hHH
 clear hE hbi hb0 hHH hH hP hj
 cases hin : inB 1 ((P : Int) - 1) set
 ·rw [hin] at hbe
  simp only [Bool.false_eq_true, if_false] at hbe
  subst hbe
  have HIN := Lq hin
  clear hin
  go_enter Tryz.func82, Tryz.ntmps82
  go_wp2_with (go_at_call 9; refine (HBI.out _).mono ?_; rintro e w' ⟨rfl, rfl⟩)
  refine (in_b HIN.out _).mono ?_
  rintro e w2 ⟨rfl, rfl⟩
  go_wp2_with fail
  go_ret
  exact ⟨rfl, HB0.out⟩
 ·rw [hin] at hbe
  simp only [if_true] at hbe
  have h1 := inB_t hin
  obtain ⟨s, rfl⟩ : ∃ s : Nat, set = (s : Int) := ⟨set.toNat, by omega⟩
  rw [Int.toNat_natCast] at hbe
  have hhs := HHH.out s (by omega)
  have HIN := Lq hin
  clear hin
  cases hg : hangsB h.js s
  ·rw [hg] at hbe hhs
   simp only [Bool.false_eq_true, if_false] at hbe
   subst hbe
   have HHS := Lq hhs
   clear hhs hg
   go_enter Tryz.func82, Tryz.ntmps82
   go_wp2_with (go_at_call 9; refine (HBI.out _).mono ?_; rintro e w' ⟨rfl, rfl⟩)
   refine (in_b HIN.out _).mono ?_
   rintro e w2 ⟨rfl, rfl⟩
   go_wp2_with fail
   refine HHS.out.mono ?_
   rintro e w2 ⟨rfl, hb2⟩
   have HB2 := Lq (belowT HB0.out hb2)
   clear hb2
   go_wp2_with fail
   go_ret
   exact ⟨rfl, HB2.out⟩
  ·rw [hg] at hbe hhs
   simp only [if_true] at hbe
   subst hbe
   have HHS := Lq hhs
   clear hhs hg
   go_enter Tryz.func82, Tryz.ntmps82
   go_wp2_with (go_at_call 9; refine (HBI.out _).mono ?_; rintro e w' ⟨rfl, rfl⟩)
   refine (in_b HIN.out _).mono ?_
   rintro e w2 ⟨rfl, rfl⟩
   go_wp2_with fail
   refine HHS.out.mono ?_
   rintro e w2 ⟨rfl, hb2⟩
   have HB2 := Lq (belowT HB0.out hb2)
   clear hb2
   go_wp2_with fail
   go_ret
   exact ⟨rfl, HB2.out⟩
theorem all_any (h : Hul) (A J : Option Addr) (cap capJ : Nat) (w : World) (hn8 : h.ps.length ≤ 8) :
  Calls Tryz.prog 49 #[hv h A cap J capJ] w fun e w' => e = .returned (iv (allN h : Nat)) ∧ BW w w' := by
 have hpw : 2 ^ h.ps.length ≤ 256 := Nat.pow_le_pow_right (n := 2) (by decide) hn8
 have hp1 : 1 ≤ 2 ^ h.ps.length := Nat.one_le_two_pow
 have ha : ((allN h : Nat) : Int) = ((2 ^ h.ps.length : Nat) : Int) - 1 := by unfold allN; omega
 have hbi := fun W => bit_any h.ps.length W (by omega)
 obtain ⟨P, hP⟩ : ∃ P : Nat, 2 ^ h.ps.length = P := ⟨_, rfl⟩
 rw [hP] at ha hbi hpw hp1
 have HBI := Lq hbi
 have HA := Lq ha
 clear ha hP hbi
 go_enter Tryz.func49, Tryz.ntmps49
 go_wp2_with (go_at_call 9; refine (HBI.out _).mono ?_; rintro e w' ⟨rfl, rfl⟩)
 go_ret
 exact ⟨by rw [HA.out]; rfl, belowA (belowR _) _⟩
theorem agrees_any (AL : Option Addr) (l : List Wgh) (capL : Nat) (AW : Option Addr) (wt : Nat → Int) (n B capW : Nat) (w : World) (hn8 : n ≤ 8) (hL : RdN 3 encWgh w B AL l) (hw : WghsOk n l) (hW : Rd1 iv w w.heap.size AW (rowW wt n)) (hb : WtOk n wt) (hB : B ≤ w.heap.size) :
  Calls Tryz.prog 86 #[.slice AL l.length capL, .slice AW n capW] w fun e w' => e = .returned (.bool (agreesB l wt)) ∧ BW w w' := by
 have hl6 := hw.l6
 have HL := Lq hL
 have HWO := Lq hw
 have HW := Lq hW
 have HB := Lq hb
 clear hL hw hW hb
 go_enter Tryz.func86, Tryz.ntmps86
 go_wp2_with fail
 obtain ⟨wq, hwq⟩ : ∃ wq : World, wq = w := ⟨_, rfl⟩
 have HBQ : Hid (BW w wq) := Lq (by rw [hwq]; exact belowR _)
 rw [← hwq]
 clear hwq
 go_loopw [5] (fun vi wr => ∃ k : Nat, k ≤ l.length ∧ vi = iv k ∧ Hid (agreesB (l.take k) wt = true) ∧ Hid (BW w wr)) (fun vi _ => l.length - (intOf vi).toNat)
 case atStart => exact ⟨0, Nat.zero_le _, rfl, Lq rfl, HBQ⟩
 case round =>
  obtain ⟨k, hk, rfl, HN, HBR⟩ := hrel
  have hzr := HBR.out.size
  by_cases hlt : k < l.length
  ·obtain ⟨y, hy⟩ : ∃ y, l[k]? = some y := ⟨_, List.getElem?_eq_getElem hlt⟩
   obtain ⟨s, a1, a2, a3, a4, a5⟩ := HWO.out.each y (List.mem_of_getElem? hy)
   obtain ⟨bl, offl, rfl, _, d0, d1, d2⟩ := wghAt (HL.out.below HBR.out hB) hy
   have hrow := HW.out.below HBR.out (Nat.le_refl _)
   have hsc : ∀ n', Calls Tryz.prog 122 #[.slice AW n capW, iv s] (wr.drewN n') fun e w' => e = .returned (iv (sumS wt s)) ∧ w' = wr.drewN n' := fun n' => sumS_any _ wt n _ capW s _ hn8 a2 (hrow.below (belowN (belowR wr) n') hzr) HB.out
   have hin : ∀ n', Calls Tryz.prog 42 #[iv (sumS wt s), iv y.lo, iv y.hi] (wr.drewN n') fun e w' => e = .returned (.bool (inB y.lo y.hi (sumS wt s))) ∧ w' = wr.drewN n' := fun n' => (in_any (sumS wt s) y.lo y.hi _).mono fun _ _ h => ⟨h.1, h.2.symm⟩
   have htk : l.take (k + 1) = l.take k ++ [y] := by
    obtain ⟨h, rfl⟩ := List.getElem?_eq_some_iff.1 hy
    rw [List.take_succ_eq_append_getElem h]
   have hag : agreesB (l.take (k + 1)) wt = inB y.lo y.hi (sumS wt s) := by
    rw [htk]
    unfold agreesB
    rw [List.all_append]
    have := HN.out
    unfold agreesB at this
    rw [this]
    simp [inB, a1]
   have hmem := List.mem_of_getElem? hy
   have hbad : inB y.lo y.hi (sumS wt s) = false → agreesB l wt = false := fun hf => by
    unfold agreesB
    rw [List.all_eq_false]
    refine ⟨y, hmem, ?_⟩
    unfold inB at hf
    rw [a1, Int.toNat_natCast]
    simpa using hf
   rw [a1] at d0
   obtain ⟨yset, ylo, yhi⟩ := y
   simp only at d0 d1 d2 hin hag hbad
   obtain ⟨S, hS⟩ := ex (sumS wt s)
   rw [hS] at hsc hin hag hbad
   obtain ⟨q, hq⟩ := ex (inB ylo yhi S)
   rw [hq] at hin hag hbad
   have HSC := Lq hsc
   have HIN := Lq hin
   have HAG := Lq hag
   have HBAD := Lq hbad
   have hk0 : (0 : Int) ≤ (k : Int) := by omega
   have hkz : (k : Int) < (l.length : Int) := by omega
   clear hy hsc hrow hS a1 a2 a3 a4 a5 hin hag hbad htk hmem hq
   go_wp2_with fail
   go_quiet ((first | (go_at_call 122; exact Calls.quiet_of_same (HSC.out _)) | (go_at_call 42; exact Calls.quiet_of_same (HIN.out _))))
   cases q
   ·go_wp2_with fail
    go_ret
    exact ⟨by rw [HBAD.out trivial]; rfl, belowN HBR.out _⟩
   ·go_wp2_with fail
    go_roundw
    case rel => exact ⟨k + 1, by omega, by go_num, HAG, Lq (belowN HBR.out _)⟩
    case measure => simp [intOf]; omega
  ·go_wp2_with fail
   go_ret
   obtain rfl : k = l.length := by omega
   have := HN.out
   rw [List.take_length] at this
   exact ⟨by rw [this]; rfl, HBR.out⟩
theorem filled_any (h : Hul) (A J : Option Addr) (B cap capJ : Nat) (AL : Option Addr) (l : List Wgh) (capL first : Nat) (w : World)
  (hH : HulRd w B h A cap J capJ) (hk : HulOk h) (hL : RdN 3 encWgh w B AL l) (hw : WghsOk h.ps.length l) (hf : first < 256) (hB : B ≤ w.heap.size) :
  Calls Tryz.prog 85 #[hv h A cap J capJ, .slice AL l.length capL, iv first] w (RowPost (filled h l first) h.ps.length w) := by
 obtain ⟨i3, hi3, hz30, hz31, hz32⟩ := info_parts Tryz.info3
 obtain ⟨W1, hW1, hb0, hzz, p0, p1, p2, p3, p4⟩ := hulBox w h A cap J capJ
 have hn8 := hk.n8
 have hn1 := hk.n1
 have hl6 := hw.l6
 have HKB : Hid (∀ W, BW W1 W → W.cell? ⟨w.heap.size, 0, none⟩ = some (.slice A h.ps.length cap) ∧ W.cell? ⟨w.heap.size, 1, none⟩ = some (.slice J h.js.length capJ) ∧ W.cell? ⟨w.heap.size, 2, none⟩ = some (iv h.slo) ∧ W.cell? ⟨w.heap.size, 3, none⟩ = some (iv h.shi) ∧ W.cell? ⟨w.heap.size, 4, none⟩ = some (iv h.winch)) := Lq fun W hb => ⟨keepC hb p0, keepC hb p1, keepC hb p2, keepC hb p3, keepC hb p4⟩
 have HH := Lq (hH.below hb0 hB)
 have HL := Lq (hL.below hb0 hB)
 have HWO := Lq hw
 have HK := Lq hk
 have HB0 := Lq hb0
 have hBz : B ≤ W1.heap.size := Nat.le_trans hB hb0.size
 have hzW : w.heap.size ≤ W1.heap.size := hb0.size
 have hplc := hH.pl
 have hpm := hH.pm
 unfold maxLen at hpm
 have HFIN : Hid (∀ e w', RowPost (filledTo h l first h.ps.length) h.ps.length w e w' → RowPost (filled h l first) h.ps.length w e w') := Lq fun _ _ h => h
 obtain ⟨POST, hPOST⟩ := ex (RowPost (filled h l first) h.ps.length w)
 rw [hPOST] at HFIN ⊢
 clear hb0 hH hL hw hk hPOST hzz
 have hpl : h.ps.length ≤ 8 := hn8
 go_enter Tryz.func85, Tryz.ntmps85
 go_wp2_with fail
 clear hW1 p0 p1 p2 p3 p4
 obtain ⟨wq, hwq⟩ : ∃ wq : World, wq = W1 := ⟨_, rfl⟩
 have HBQ : Hid (BW W1 wq) := Lq (by rw [hwq]; exact belowR _)
 rw [← hwq]
 clear hwq
 go_loopw [7, 8] (fun vv vi wr => ∃ (k : Nat) (v : Value), k ≤ h.ps.length ∧ vi = iv k ∧ v = vv ∧ Hid (wr.ownsRow W1.heap.size 3 1 v k ((rowW (loOf h) k).map iv)) ∧ Hid (BW W1 wr)) (fun _ vi _ => h.ps.length - (intOf vi).toNat)
 case atStart => exact ⟨0, _, Nat.zero_le _, rfl, rfl, Lq (World.ownsRow_nil _ _ _ _), HBQ⟩
 case round =>
  obtain ⟨k, v, hk, rfl, rfl, OWN, HBR⟩ := hrel
  obtain ⟨p0, p1, p2, p3, p4⟩ := HKB.out _ HBR.out
  have hzr := HBR.out.size
  by_cases hlt : k < h.ps.length
  ·obtain ⟨x, hx⟩ : ∃ x, h.ps[k]? = some x := ⟨_, List.getElem?_eq_getElem hlt⟩
   obtain ⟨b, off, rfl, _, e0, e1, e2⟩ := prtAt (HH.out.ps.below HBR.out hBz) hx
   have hlo : loOf h k = x.lo := by simp [loOf, hx]
   obtain ⟨xn, xlo, xhi⟩ := x
   simp only at e0 e1 e2 hlo
   have HLO := Lq hlo
   have hnew : ∀ j u, [iv xlo][j]? = some u → (wr.alloc (.cells #[iv xlo] 3)).cell? ((⟨wr.heap.size, 0, none⟩ : Addr).add j) = some u := one_new _ _ _
   have HNW := Lq hnew
   have hk0 : (0 : Int) ≤ (k : Int) := by omega
   have hkz : (k : Int) < (h.ps.length : Int) := by omega
   clear hx hlo hnew p1 p2 p3 p4 e0 e2
   go_wp2_with (at_builtin; refine wpList_append_own _ rfl _ _ 47 rfl W1.heap.size 3 i3 (iv 0) 1 8 Tryz.underlying47 hi3 hz30 hz31 hz32 rfl (by decide) _ _ _ rfl (OWN.out.alloc _) ⟨wr.heap.size, 0, none⟩ 1 1 [iv xlo] rfl rfl ?c1 ?c2 ?c3 ?c4 ?c5 ?_)
   case c1 => exact HNW.out
   case c2 => simp [Value.oneCell']
   case c3 => unfold maxLen; omega
   case c4 => omega
   case c5 => simp; omega
   intro v' w4 hown' hgrow _
   have hB4 : BW W1 w4 := grownB (OWN.out.alloc _) hgrow (Nat.le_refl _) (belowA HBR.out _)
   have HO' := Lq hown'
   have HB4 := Lq hB4
   clear hgrow hown' p0 e1 hB4
   go_wp2_with fail
   go_roundw
   case rel => exact ⟨k + 1, v', by omega, by go_num, rfl, Lq (by rw [rowW_succ, HLO.out, List.map_append]; exact HO'.out), HB4⟩
   case measure => simp [intOf]; omega
  ·obtain rfl : k = h.ps.length := by omega
   have hown := OWN.out
   obtain ⟨g0, cap0, rfl, hg0, _, _⟩ := own_form hown hn1
   have HO0 := Lq hown
   clear hown OWN
   go_wp2_with fail
   clear p0 p1 p2 p3 p4
   obtain ⟨wp, hwp⟩ : ∃ wp : World, wp = wr := ⟨_, rfl⟩
   have HBP : Hid (BW W1 wp) := Lq (by rw [hwp]; exact HBR.out)
   have HOP : Hid (wp.ownsRow W1.heap.size 3 1 (.slice (some ⟨g0, 0, none⟩) h.ps.length cap0) h.ps.length ((rowW (loOf h) h.ps.length).map iv)) := Lq (by rw [hwp]; exact HO0.out)
   rw [← hwp]
   clear hwp HBR HO0 hzr
   go_loopw [7, 9] (fun vv vm wr => ∃ (m g cp : Nat), m ≤ h.ps.length ∧ vm = iv ((m : Int) + 1) ∧ vv = .slice (some ⟨g, 0, none⟩) h.ps.length cp ∧ Hid (wr.ownsRow W1.heap.size 3 1 (.slice (some ⟨g, 0, none⟩) h.ps.length cp) h.ps.length ((rowW (filledTo h l first m) h.ps.length).map iv)) ∧ Hid (BW W1 wr)) (fun _ vm _ => h.ps.length + 1 - (intOf vm).toNat)
   case atStart => exact ⟨0, g0, cap0, Nat.zero_le _, by go_num, rfl, HOP, HBP⟩
   case round =>
    obtain ⟨m, g, cp, hm, rfl, rfl, HO, HBR⟩ := hrel
    by_cases hlt : m < h.ps.length
    ·obtain ⟨p0, p1, p2, p3, p4⟩ := HKB.out _ HBR.out
     have hmz : (m : Int) + 1 ≤ (h.ps.length : Int) := by omega
     go_wp2_with fail
     clear p0 p1 p2 p3 p4
     obtain ⟨wa, hwa⟩ : ∃ wa : World, wa = wr := ⟨_, rfl⟩
     have HBA : Hid (BW W1 wa) := Lq (by rw [hwa]; exact HBR.out)
     have HOA : Hid (wa.ownsRow W1.heap.size 3 1 (.slice (some ⟨g, 0, none⟩) h.ps.length cp) h.ps.length ((rowW (filledTo h l first m) h.ps.length).map iv)) := Lq (by rw [hwa]; exact HO.out)
     rw [← hwa]
     clear hwa HBR HO
     go_loopw [7, 10] (fun vv vi wr => ∃ (k g cp : Nat), k ≤ l.length ∧ vi = iv k ∧ vv = .slice (some ⟨g, 0, none⟩) h.ps.length cp ∧ Hid (wr.ownsRow W1.heap.size 3 1 (.slice (some ⟨g, 0, none⟩) h.ps.length cp) h.ps.length ((rowW (fillTo h l first (m + 1) (filledTo h l first m) k) h.ps.length).map iv)) ∧ Hid (BW W1 wr)) (fun _ vi _ => l.length - (intOf vi).toNat)
     case atStart => exact ⟨0, g, cp, Nat.zero_le _, rfl, rfl, HOA, HBA⟩
     case round =>
      obtain ⟨k, g2, cp2, hk, rfl, rfl, HO, HBR⟩ := hrel
      by_cases hlt2 : k < l.length
      ·obtain ⟨y, hy⟩ : ∃ y, l[k]? = some y := ⟨_, List.getElem?_eq_getElem hlt2⟩
       obtain ⟨s, a1, hs2, a3, a4, a5⟩ := HWO.out.each y (List.mem_of_getElem? hy)
       have hfs := fillTo_succ h l first (m + 1) (filledTo h l first m) k
       rw [hy] at hfs
       simp only [a1, Int.toNat_natCast] at hfs
       have hbx : Box h (fillTo h l first (m + 1) (filledTo h l first m) k) := fillTo_box (filledTo_box HK.out.ps first m) k
       obtain ⟨bl, ol, rfl, _, d0, d1, d2⟩ := wghAt (HL.out.below HBR.out hBz) hy
       have hs256 := lt256 hn8 hs2
       obtain ⟨v, hv⟩ := ex (fillTo h l first (m + 1) (filledTo h l first m) k)
       rw [hv] at hfs hbx HO
       rw [a1] at d0
       have hf1 : fillOne h l first y v = raised h l (raised h l v (s &&& first) (y.lo - sumS v s)) (s - (s &&& first)) (y.lo - sumS (raised h l v (s &&& first) (y.lo - sumS v s)) s) := by unfold fillOne; rw [a1]; rfl
       have hCs : s &&& first ≤ s := Nat.and_le_left
       have hcm : ∀ W, Calls Tryz.prog 83 #[iv s, iv first] W fun e w' => e = .returned (iv (s &&& first : Nat)) ∧ W = w' := fun W => common_any s first W hs256 hf
       obtain ⟨C, hC⟩ := ex (s &&& first)
       rw [hC] at hf1 hCs hcm
       obtain ⟨yset, ylo, yhi⟩ := y
       simp only at hf1 d0 d1 d2 a3 a4 a5 hfs
       have hsd : (s : Int) - (C : Int) = ((s - C : Nat) : Int) := by omega
       have HFS := Lq hfs
       have HF1 := Lq hf1
       have HvBX := Lq hbx
       have HCM := Lq hcm
       have HSD := Lq hsd
       have HV := Lq hv
       have hmn : ∀ W, Calls Tryz.prog 121 #[iv s] W fun e w' => e = .returned (iv (onesN s)) ∧ W = w' := fun W => many2_any s W hs256
       have hk0 : (0 : Int) ≤ (k : Int) := by omega
       have hkz : (k : Int) < (l.length : Int) := by omega
       obtain ⟨O, hO⟩ := ex (onesN s)
       rw [hO] at hmn HFS
       have HMN := Lq hmn
       have hO8 : O ≤ 8 := by rw [← hO]; exact onesN_le s
       clear hy a1 hfs hbx hf1 hcm hC hsd hv hmn hO
       by_cases hom : O = m + 1
       case neg =>
        have hne : ((O : Int) != ((m : Int) + 1)) = true := by rw [bne_iff_ne]; omega
        have HOM := Lq hom
        clear hom
        go_wp2_with (go_at_call 121; refine (HMN.out _).mono ?_; rintro e w' ⟨rfl, rfl⟩)
        go_roundw
        case rel => exact ⟨k + 1, g2, cp2, by omega, by go_num, rfl, Lq (by rw [HFS.out, if_neg HOM.out]; exact HO.out), HBR⟩
        case measure => simp [intOf]; omega
       have hne : ((O : Int) != ((m : Int) + 1)) = false := by rw [bne_eq_false_iff_eq]; omega
       have HFS2 : Hid (fillTo h l first (m + 1) (filledTo h l first m) (k + 1) = raised h l (raised h l v C (ylo - sumS v s)) (s - C) (ylo - sumS (raised h l v C (ylo - sumS v s)) s)) := Lq (by rw [HFS.out, if_pos hom]; exact HF1.out)
       have HKX : Hid (∀ W, BW wr W → W.cell? ⟨bl, ol + k * 3, none⟩ = some (iv ((s : Nat) : Int)) ∧ W.cell? ⟨bl, ol + k * 3 + 1, none⟩ = some (iv ylo)) := Lq fun W hb => ⟨keepC hb d0, keepC hb d1⟩
       have HKW : Hid (∀ W, BW wr W → W.cell? ⟨w.heap.size, 0, none⟩ = some (.slice A h.ps.length cap) ∧ W.cell? ⟨w.heap.size, 1, none⟩ = some (.slice J h.js.length capJ) ∧ W.cell? ⟨w.heap.size, 2, none⟩ = some (iv h.slo) ∧ W.cell? ⟨w.heap.size, 3, none⟩ = some (iv h.shi) ∧ W.cell? ⟨w.heap.size, 4, none⟩ = some (iv h.winch)) := Lq fun W hb => HKB.out W (belowT HBR.out hb)
       have HsBD := Lq (sumS_bd hn8 hs2 (box_wt HK.out.ps HvBX.out))
       clear hom HFS HF1 HV d2
       have hsc : ∀ V, BW wr V → Calls Tryz.prog 122 #[.slice (some ⟨g2, 0, none⟩) h.ps.length cp2, iv s] V fun e w' => e = .returned (iv (sumS v s)) ∧ w' = V := fun V hb => sumS_any _ v h.ps.length _ cp2 s V hn8 hs2 (row_rd (own_below HO.out hb)) (box_wt HK.out.ps HvBX.out)
       have hsb := sumS_bd hn8 hs2 (box_wt HK.out.ps HvBX.out)
       have hrc : ∀ V, BW wr V → Calls Tryz.prog 84 #[hv h A cap J capJ, .slice (some ⟨bl, ol, none⟩) l.length capL, .slice (some ⟨g2, 0, none⟩) h.ps.length cp2, iv ((C : Nat) : Int), iv (ylo - sumS v s)] V (RowPost (raised h l v (C) (ylo - sumS v s)) h.ps.length V) := fun V hb => raised_any h A J B cap capJ _ l capL _ v cp2 (C) (ylo - sumS v s) V (HH.out.below (belowT HBR.out hb) hBz) HK.out (HL.out.below (belowT HBR.out hb) hBz) HWO.out (row_rd (own_below HO.out hb)) HvBX.out (by omega) (by omega) (by omega) (Nat.le_trans hBz (belowT HBR.out hb).size)
       have hbx2 : Box h (raised h l v (C) (ylo - sumS v s)) := raised_box l _ _ HvBX.out
       obtain ⟨u1, hu⟩ := ex (raised h l v (C) (ylo - sumS v s))
       rw [hu] at hrc hbx2
       have HU1 := Lq hu
       obtain ⟨S1, hS⟩ := ex (sumS v s)
       rw [hS] at hsc hrc hsb
       have HSS1 := Lq hS
       have HSC := Lq hsc
       have HRC := Lq hrc
       have Hu1BX := Lq hbx2
       obtain ⟨hsb0, hsb1⟩ := hsb
       have hwr : IntKind.i64.wrap (ylo - S1) = ylo - S1 := by rw [IntKind.wrap_i64]; omega
       clear hu hS hsc hrc hbx2
       go_upto_region 14 with (first | (go_at_call 121; refine (HMN.out _).mono ?_; rintro e w' ⟨rfl, rfl⟩) | (go_at_call 83; refine (HCM.out _).mono ?_; rintro e w' ⟨rfl, rfl⟩))
       have HBD := Lq (belowDq (belowR wr))
       go_region_held3 (fun W => W.cell? ⟨w.heap.size, 0, none⟩ = some (.slice A h.ps.length cap) ∧ W.cell? ⟨w.heap.size, 1, none⟩ = some (.slice J h.js.length capJ) ∧ W.cell? ⟨w.heap.size, 2, none⟩ = some (iv h.slo) ∧ W.cell? ⟨w.heap.size, 3, none⟩ = some (iv h.shi) ∧ W.cell? ⟨w.heap.size, 4, none⟩ = some (iv h.winch) ∧ W.cell? ⟨bl, ol + k * 3, none⟩ = some (iv ((s : Nat) : Int)) ∧ W.cell? ⟨bl, ol + k * 3 + 1, none⟩ = some (iv ylo)) (first | exact ⟨(HKW.out _ HBD.out).1, (HKW.out _ HBD.out).2.1, (HKW.out _ HBD.out).2.2.1, (HKW.out _ HBD.out).2.2.2.1, (HKW.out _ HBD.out).2.2.2.2, (HKX.out _ HBD.out).1, (HKX.out _ HBD.out).2⟩ | exact ⟨(HKW.out _ HB2.out).1, (HKW.out _ HB2.out).2.1, (HKW.out _ HB2.out).2.2.1, (HKW.out _ HB2.out).2.2.2.1, (HKW.out _ HB2.out).2.2.2.2, (HKX.out _ HB2.out).1, (HKX.out _ HB2.out).2⟩) (((first | (go_at_call 122; ((with_reducible refine (HSC.out _ HBD.out).mono ?_); rintro e w2 ⟨rfl, rfl⟩)) | (go_at_call 84; ((with_reducible refine (HRC.out _ HBD.out).mono ?_); rintro e w3 ⟨hb2, g3, cap3, rfl, hown3⟩; have HB2 := Lq (belowT HBD.out hb2))))))
       have HO3 := Lq (own_base hown3 (Nat.le_refl _))
       clear hown3 hb2
       have HKX3 : Hid (∀ W, BW w3 W → W.cell? ⟨bl, ol + k * 3, none⟩ = some (iv ((s : Nat) : Int)) ∧ W.cell? ⟨bl, ol + k * 3 + 1, none⟩ = some (iv ylo)) := Lq fun W hb => HKX.out W (belowT HB2.out hb)
       have HKW3 : Hid (∀ W, BW w3 W → W.cell? ⟨w.heap.size, 0, none⟩ = some (.slice A h.ps.length cap) ∧ W.cell? ⟨w.heap.size, 1, none⟩ = some (.slice J h.js.length capJ) ∧ W.cell? ⟨w.heap.size, 2, none⟩ = some (iv h.slo) ∧ W.cell? ⟨w.heap.size, 3, none⟩ = some (iv h.shi) ∧ W.cell? ⟨w.heap.size, 4, none⟩ = some (iv h.winch)) := Lq fun W hb => HKW.out W (belowT HB2.out hb)
       have HBR3 : Hid (BW W1 w3) := Lq (belowT HBR.out HB2.out)
       obtain ⟨D, hD⟩ := ex (s - C)
       rw [hD] at HFS2 HSD
       have hws : IntKind.i64.wrap ((s : Int) - (C : Int)) = (D : Int) := by rw [HSD.out, IntKind.wrap_i64]; omega
       have hDs : D ≤ s := by omega
       clear HB2 HBD HSC HRC hsb0 hsb1 hwr d0 d1 hD
       have hsc : ∀ V, BW w3 V → Calls Tryz.prog 122 #[.slice (some ⟨g3, 0, none⟩) h.ps.length cap3, iv s] V fun e w' => e = .returned (iv (sumS u1 s)) ∧ w' = V := fun V hb => sumS_any _ u1 h.ps.length _ cap3 s V hn8 hs2 (row_rd (own_below HO3.out hb)) (box_wt HK.out.ps Hu1BX.out)
       have hsb := sumS_bd hn8 hs2 (box_wt HK.out.ps Hu1BX.out)
       have hrc : ∀ V, BW w3 V → Calls Tryz.prog 84 #[hv h A cap J capJ, .slice (some ⟨bl, ol, none⟩) l.length capL, .slice (some ⟨g3, 0, none⟩) h.ps.length cap3, iv ((D : Nat) : Int), iv (ylo - sumS u1 s)] V (RowPost (raised h l u1 (D) (ylo - sumS u1 s)) h.ps.length V) := fun V hb => raised_any h A J B cap capJ _ l capL _ u1 cap3 (D) (ylo - sumS u1 s) V (HH.out.below (belowT HBR3.out hb) hBz) HK.out (HL.out.below (belowT HBR3.out hb) hBz) HWO.out (row_rd (own_below HO3.out hb)) Hu1BX.out (by omega) (by omega) (by omega) (Nat.le_trans hBz (belowT HBR3.out hb).size)
       have hbx2 : Box h (raised h l u1 (D) (ylo - sumS u1 s)) := raised_box l _ _ Hu1BX.out
       obtain ⟨u2, hu⟩ := ex (raised h l u1 (D) (ylo - sumS u1 s))
       rw [hu] at hrc hbx2
       have HU2 := Lq hu
       obtain ⟨S2, hS⟩ := ex (sumS u1 s)
       rw [hS] at hsc hrc hsb
       have HSS2 := Lq hS
       have HSC := Lq hsc
       have HRC := Lq hrc
       have Hu2BX := Lq hbx2
       obtain ⟨hsb0, hsb1⟩ := hsb
       have hwr : IntKind.i64.wrap (ylo - S2) = ylo - S2 := by rw [IntKind.wrap_i64]; omega
       clear hu hS hsc hrc hbx2
       go_upto_region 15 with (first | (go_at_call 121; refine (HMN.out _).mono ?_; rintro e w' ⟨rfl, rfl⟩) | (go_at_call 83; refine (HCM.out _).mono ?_; rintro e w' ⟨rfl, rfl⟩))
       have HBD := Lq (belowDq (belowR w3))
       go_region_held3 (fun W => W.cell? ⟨w.heap.size, 0, none⟩ = some (.slice A h.ps.length cap) ∧ W.cell? ⟨w.heap.size, 1, none⟩ = some (.slice J h.js.length capJ) ∧ W.cell? ⟨w.heap.size, 2, none⟩ = some (iv h.slo) ∧ W.cell? ⟨w.heap.size, 3, none⟩ = some (iv h.shi) ∧ W.cell? ⟨w.heap.size, 4, none⟩ = some (iv h.winch) ∧ W.cell? ⟨bl, ol + k * 3, none⟩ = some (iv ((s : Nat) : Int)) ∧ W.cell? ⟨bl, ol + k * 3 + 1, none⟩ = some (iv ylo)) (first | exact ⟨(HKW3.out _ HBD.out).1, (HKW3.out _ HBD.out).2.1, (HKW3.out _ HBD.out).2.2.1, (HKW3.out _ HBD.out).2.2.2.1, (HKW3.out _ HBD.out).2.2.2.2, (HKX3.out _ HBD.out).1, (HKX3.out _ HBD.out).2⟩ | exact ⟨(HKW3.out _ HB2.out).1, (HKW3.out _ HB2.out).2.1, (HKW3.out _ HB2.out).2.2.1, (HKW3.out _ HB2.out).2.2.2.1, (HKW3.out _ HB2.out).2.2.2.2, (HKX3.out _ HB2.out).1, (HKX3.out _ HB2.out).2⟩) (((first | (go_at_call 122; ((with_reducible refine (HSC.out _ HBD.out).mono ?_); rintro e w2 ⟨rfl, rfl⟩)) | (go_at_call 84; ((with_reducible refine (HRC.out _ HBD.out).mono ?_); rintro e w4 ⟨hb2, g4, cap4, rfl, hown4⟩; have HB2 := Lq (belowT HBD.out hb2))))))
       have HO4 := Lq (own_base hown4 (Nat.le_refl _))
       clear hown4 hb2
       have HB4 := Lq (belowT HBR3.out HB2.out)
       have hz4 := HBR3.out.size
       clear HB2 HBD HSC HRC hsb0 hsb1 hwr hws
       go_wp2_with fail
       go_roundw
       case rel => exact ⟨k + 1, g4, cap4, by omega, by go_num, rfl, Lq (by rw [HFS2.out, HU1.out, HU2.out]; exact own_base HO4.out hz4), HB4⟩
       case measure => simp [intOf]; omega
      ·obtain rfl : k = l.length := by omega
       go_wp2_with fail
       go_roundw
       case rel => exact ⟨m + 1, g2, cp2, by omega, by go_num, rfl, HO, HBR⟩
       case measure => simp [intOf]; omega
    ·obtain rfl : m = h.ps.length := by omega
     obtain ⟨p0, p1, p2, p3, p4⟩ := HKB.out _ HBR.out
     go_wp2_with fail
     exact HFIN.out _ _ ⟨belowT HB0.out HBR.out, g, cp, rfl, own_base HO.out hzW⟩
def SetsTo (l : List Wgh) (i : Nat) : Prop := ∀ (k : Nat) (y : Wgh), k < i → l[k]? = some y → ∃ s : Nat, y.set = (s : Int) ∧ s < 256
theorem refWeighed_any (h : Hul) (A J : Option Addr) (B cap capJ : Nat) (AL : Option Addr) (l : List Wgh) (capL i : Nat) (w : World) (hH : HulRd w B h A cap J capJ) (hn1 : 1 ≤ h.ps.length) (hn8 : h.ps.length ≤ 8) (hj : JsOk h.ps.length h.js) (hjl : h.js.length ≤ 12)
  (hL : RdN 3 encWgh w B AL l) (hl6 : l.length ≤ 6) (hi : i < l.length) (hs : SetsTo l i) (hB : B ≤ w.heap.size) :
  Calls Tryz.prog 47 #[hv h A cap J capJ, .slice AL l.length capL, iv i] w (Rt w (iv (weighedE h.ps.length h.js l i))) := by
 obtain ⟨W1, hW1, hb0, hzz, p0, p1, p2, p3, p4⟩ := hulBox w h A cap J capJ
 obtain ⟨x, hx⟩ : ∃ x, l[i]? = some x := ⟨_, List.getElem?_eq_getElem hi⟩
 have hwe : weighedE h.ps.length h.js l i = if blockE h.ps.length h.js x.set = 0 then (if crossB (l.take i) x.set.toNat then 6 else rangeE 0 1000000 x.lo x.hi) else blockE h.ps.length h.js x.set := by unfold weighedE; rw [hx]
 obtain ⟨R, hR⟩ := ex (weighedE h.ps.length h.js l i)
 rw [hR] at hwe ⊢
 obtain ⟨bl, ol, rfl, _, x0, x1, x2⟩ := wghAt (hL.below hb0 hB) hx
 have hbk := fun W (hb : BW W1 W) => refBlock_any h A J B cap capJ x.set W (hH.below (belowT hb0 hb) hB) hn1 hn8 hj hjl (Nat.le_trans hB (Nat.le_trans hb0.size hb.size))
 have HBK := Lq hbk
 have hE0 : blockE h.ps.length h.js x.set = 0 → ∃ s : Nat, s < 256 ∧ x.set = (s : Int) := fun h0 => by
  obtain ⟨s, a, _, _, b, _⟩ := blockE_zero hn8 h0
  exact ⟨s, a, b⟩
 obtain ⟨E, hE⟩ := ex (blockE h.ps.length h.js x.set)
 rw [hE] at hwe HBK hE0
 have HL := Lq (hL.below hb0 hB)
 have HB0 := Lq hb0
 have HX := Lq hx
 have HSS := Lq hs
 have HWE := Lq hwe
 have HE0 := Lq hE0
 have HKX : Hid (∀ W, BW W1 W → W.cell? ⟨bl, ol + i * 3, none⟩ = some (iv x.set) ∧ W.cell? ⟨bl, ol + i * 3 + 1, none⟩ = some (iv x.lo) ∧ W.cell? ⟨bl, ol + i * 3 + 2, none⟩ = some (iv x.hi)) := Lq fun W hb => ⟨keepC hb x0, keepC hb x1, keepC hb x2⟩
 have HKB : Hid (∀ W, BW W1 W → W.cell? ⟨w.heap.size, 0, none⟩ = some (.slice A h.ps.length cap) ∧ W.cell? ⟨w.heap.size, 1, none⟩ = some (.slice J h.js.length capJ) ∧ W.cell? ⟨w.heap.size, 2, none⟩ = some (iv h.slo) ∧ W.cell? ⟨w.heap.size, 3, none⟩ = some (iv h.shi) ∧ W.cell? ⟨w.heap.size, 4, none⟩ = some (iv h.winch)) := Lq fun W hb => ⟨keepC hb p0, keepC hb p1, keepC hb p2, keepC hb p3, keepC hb p4⟩
 have hBz := Nat.le_trans hB hb0.size
 have hi0 : (0 : Int) ≤ (i : Int) := by omega
 have hil : (i : Int) < (l.length : Int) := by omega
 clear hzz hb0 hL hH hx hR hwe hE hbk hs hj hE0
 obtain ⟨xset, xlo, xhi⟩ := x
 simp only at x0 x1 x2 HBK HWE HE0 HKX
 go_enter Tryz.func47, Tryz.ntmps47
 go_wp2_with fail
 have HBD := Lq (belowDq (belowR W1))
 go_region_held3 (fun W => W.cell? ⟨w.heap.size, 0, none⟩ = some (.slice A h.ps.length cap) ∧ W.cell? ⟨w.heap.size, 1, none⟩ = some (.slice J h.js.length capJ) ∧ W.cell? ⟨w.heap.size, 2, none⟩ = some (iv h.slo) ∧ W.cell? ⟨w.heap.size, 3, none⟩ = some (iv h.shi) ∧ W.cell? ⟨w.heap.size, 4, none⟩ = some (iv h.winch) ∧ W.cell? ⟨bl, ol + i * 3, none⟩ = some (iv xset)) (first | exact ⟨(HKB.out _ HBD.out).1, (HKB.out _ HBD.out).2.1, (HKB.out _ HBD.out).2.2.1, (HKB.out _ HBD.out).2.2.2.1, (HKB.out _ HBD.out).2.2.2.2, (HKX.out _ HBD.out).1⟩ | exact ⟨(HKB.out _ HB2.out).1, (HKB.out _ HB2.out).2.1, (HKB.out _ HB2.out).2.2.1, (HKB.out _ HB2.out).2.2.2.1, (HKB.out _ HB2.out).2.2.2.2, (HKX.out _ HB2.out).1⟩) ((go_at_call 82; ((with_reducible refine (HBK.out _ HBD.out).mono ?_); rintro e w2 ⟨rfl, hb2⟩; have HB2 := Lq (belowT (HBD.out) hb2); clear hb2)))
 obtain ⟨w3, hw3⟩ : ∃ w3 : World, w3 = w2 := ⟨_, rfl⟩
 have HB3 : Hid (BW W1 w3) := Lq (by rw [hw3]; exact HB2.out)
 rw [← hw3]
 clear hw3 HBD HB2 x0 x1 x2 p0 p1 p2 p3 p4 hW1 HBK
 go_wp2_with fail
 go_loopw [7, 8] (fun vv vi wr => ∃ (k : Nat) (v : Int), k ≤ i ∧ vi = iv k ∧ vv = iv v ∧ Hid (v = if E = 0 then (if crossB (l.take k) xset.toNat then 6 else 0) else E) ∧ Hid (BW W1 wr)) (fun _ vi _ => i - (intOf vi).toNat)
 case atStart => exact ⟨0, E, Nat.zero_le _, rfl, rfl, Lq (by split; (rename_i h; rw [h]; simp [crossB]); rfl), HB3⟩
 case round =>
  obtain ⟨k, v, hk, rfl, rfl, HV, HBR⟩ := hrel
  obtain ⟨x0, x1, x2⟩ := HKX.out _ HBR.out
  by_cases hstop : k < i ∧ v = 0
  ·obtain ⟨hlt, rfl⟩ := hstop
   have hv := HV.out
   by_cases hE : E = 0
   case neg => rw [if_neg hE] at hv; exact absurd hv.symm hE
   subst hE
   rw [if_pos rfl] at hv
   have hcf : crossB (l.take k) xset.toNat = false := by
    cases hc : crossB (l.take k) xset.toNat with
    | false => rfl
    | true => rw [hc] at hv; simp at hv
   obtain ⟨s, hs256, rfl⟩ := HE0.out rfl
   rw [Int.toNat_natCast] at hcf
   obtain ⟨y, hy⟩ : ∃ y, l[k]? = some y := ⟨_, List.getElem?_eq_getElem (by omega)⟩
   obtain ⟨b, hb1, hb256⟩ := HSS.out k y hlt hy
   obtain ⟨b9, o9, he9, _, y0, y1, y2⟩ := wghAt (HL.out.below HBR.out hBz) hy
   injection he9 with he9
   injection he9 with he91 he92
   subst he91 he92
   obtain ⟨yset, ylo, yhi⟩ := y
   simp only at hb1 y0 y1 y2
   subst hb1
   have hcm : ∀ n, Calls Tryz.prog 83 #[iv s, iv b] (wr.drewN n) fun e w' => e = .returned (iv (s &&& b : Nat)) ∧ w' = wr.drewN n := fun n => (common_any s b _ hs256 hb256).mono fun _ _ h => ⟨h.1, h.2.symm⟩
   obtain ⟨M, hM⟩ := ex (s &&& b)
   rw [hM] at hcm
   have HM := Lq hM
   have HCM := Lq hcm
   have HCF := Lq hcf
   have HY := Lq hy
   have hk0 : (0 : Int) ≤ (k : Int) := by omega
   have hki : (k : Int) < (i : Int) := by omega
   have hkl : (k : Int) < (l.length : Int) := by omega
   have HSN : Hid (crossB (l.take (k + 1)) s = crossN s b) := Lq (by rw [crossB_snoc _ _ _ _ HY.out, HCF.out, Int.toNat_natCast]; rfl)
   have HSC : Hid (crossN s b = (M != 0 && M != s && M != b)) := Lq (by unfold crossN; rw [HM.out])
   clear hM hcm hcf hy hv HV
   have z0 := x0
   by_cases c1 : M = 0
   ·subst c1
    have HCN : Hid (crossB (l.take (k + 1)) s = false) := Lq (by rw [HSN.out, HSC.out]; rfl)
    go_wp2_with fail
    go_quiet ((go_at_call 83; exact Calls.quiet_of_same (HCM.out _)))
    go_wp2_with fail
    go_roundw
    case rel => exact ⟨k + 1, 0, by omega, by go_num, rfl, Lq (by rw [Int.toNat_natCast, HCN.out]; rfl), Lq (belowN HBR.out _)⟩
    case measure => simp [intOf]; omega
   have d1 : ((M : Int) == 0) = false := by simpa using c1
   have d1' : ((M : Int) != 0) = true := by simpa using c1
   by_cases c2 : M = s
   ·have HCN : Hid (crossB (l.take (k + 1)) s = false) := Lq (by rw [HSN.out, HSC.out, c2]; simp)
    have d2 : ((M : Int) == (s : Int)) = true := by rw [c2]; simp
    have d2' : ((M : Int) != (s : Int)) = false := by rw [c2]; simp
    clear c1 c2
    go_wp2_with fail
    go_quiet ((go_at_call 83; exact Calls.quiet_of_same (HCM.out _)))
    go_wp2_with fail
    go_roundw
    case rel => exact ⟨k + 1, 0, by omega, by go_num, rfl, Lq (by rw [Int.toNat_natCast, HCN.out]; rfl), Lq (belowN HBR.out _)⟩
    case measure => simp [intOf]; omega
   have d2 : ((M : Int) == (s : Int)) = false := by rw [beq_eq_false_iff_ne]; omega
   have d2' : ((M : Int) != (s : Int)) = true := by rw [bne_iff_ne]; omega
   by_cases c3 : M = b
   ·have HCN : Hid (crossB (l.take (k + 1)) s = false) := Lq (by rw [HSN.out, HSC.out, c3]; simp)
    have d3 : ((M : Int) == (b : Int)) = true := by rw [c3]; simp
    have d3' : ((M : Int) != (b : Int)) = false := by rw [c3]; simp
    clear c1 c2 c3
    go_wp2_with fail
    go_quiet ((go_at_call 83; exact Calls.quiet_of_same (HCM.out _)))
    go_wp2_with fail
    go_roundw
    case rel => exact ⟨k + 1, 0, by omega, by go_num, rfl, Lq (by rw [Int.toNat_natCast, HCN.out]; rfl), Lq (belowN HBR.out _)⟩
    case measure => simp [intOf]; omega
   have d3 : ((M : Int) == (b : Int)) = false := by rw [beq_eq_false_iff_ne]; omega
   have d3' : ((M : Int) != (b : Int)) = true := by rw [bne_iff_ne]; omega
   have HCN : Hid (crossB (l.take (k + 1)) s = true) := Lq (by rw [HSN.out, HSC.out]; simp [c1, c2, c3])
   clear c1 c2 c3
   go_wp2_with fail
   go_quiet ((go_at_call 83; exact Calls.quiet_of_same (HCM.out _)))
   go_wp2_with fail
   go_roundw
   case rel => exact ⟨k + 1, 6, by omega, by go_num, rfl, Lq (by rw [Int.toNat_natCast, HCN.out]; rfl), Lq (belowN HBR.out _)⟩
   case measure => simp [intOf]; omega
  ·have hfin : v = 0 → k = i := fun h0 => by
    by_cases hlt : k < i
    ·exact absurd ⟨hlt, h0⟩ hstop
    ·omega
   have hmono : crossB (l.take k) xset.toNat = true → crossB (l.take i) xset.toNat = true := fun h => crossB_mono h hk
   by_cases h0 : v = 0
   ·subst h0
    obtain rfl := hfin rfl
    have hr : R = rangeE 0 1000000 xlo xhi := by
     have hv := HV.out
     have hwe := HWE.out
     by_cases hE : E = 0
     ·rw [if_pos hE] at hv hwe
      cases hc : crossB (l.take k) xset.toNat with
      | true => rw [hc] at hv; simp at hv
      | false => rw [hc] at hwe; simpa using hwe
     ·rw [if_neg hE] at hv
      exact absurd hv.symm hE
    have HR := Lq hr
    clear hr hstop hfin hmono
    go_wp2_with fail
    refine (range_any 0 1000000 xlo xhi _).mono ?_
    rintro e w5 ⟨he, hb5⟩
    rw [← HR.out] at he
    subst he
    have HB5 := Lq (belowT HBR.out hb5)
    clear hb5
    go_wp2_with fail
    go_ret
    exact ⟨rfl, belowT HB0.out HB5.out⟩
   ·have hr : R = v := by
     have hv := HV.out
     have hwe := HWE.out
     by_cases hE : E = 0
     ·rw [if_pos hE] at hv hwe
      cases hc : crossB (l.take k) xset.toNat with
      | true => rw [hc] at hv; rw [hmono hc] at hwe; simp at hv hwe; rw [hv, hwe]
      | false => rw [hc] at hv; simp at hv; exact absurd hv h0
     ·rw [if_neg hE] at hv hwe
      rw [hv, hwe]
    subst hr
    have hne : (R == 0) = false := by simpa using h0
    clear hstop hfin hmono h0
    by_cases hlt : k < i
    ·go_wp2_with fail
     go_ret
     exact ⟨rfl, belowT HB0.out HBR.out⟩
    ·go_wp2_with fail
     go_ret
     exact ⟨rfl, belowT HB0.out HBR.out⟩
def MostRow (wt : Nat → Int) (b : Bool) (n : Nat) (w : World) (e : Ending) (w' : World) : Prop :=
 BW w w' ∧ ∃ g cap, e = .returned (.tuple #[.slice (some ⟨g, 0, none⟩) n cap, .bool b]) ∧ w'.ownsRow w.heap.size 3 1 (.slice (some ⟨g, 0, none⟩) n cap) n ((rowW wt n).map iv)
theorem most66_any (h : Hul) (A J : Option Addr) (B cap capJ : Nat) (AL : Option Addr) (l : List Wgh) (capL set : Nat) (w : World)
  (hH : HulRd w B h A cap J capJ) (hk : HulOk h) (hL : RdN 3 encWgh w B AL l) (hw : WghsOk h.ps.length l) (hf : set < 256) (hB : B ≤ w.heap.size) :
  Calls Tryz.prog 48 #[hv h A cap J capJ, .slice AL l.length capL, iv set] w (MostRow (mostW h l set) (agreesB l (mostW h l set)) h.ps.length w) := by
 obtain ⟨W1, hW1, hb0, hzz, p0, p1, p2, p3, p4⟩ := hulBox w h A cap J capJ
 have hn8 := hk.n8
 have hn1 := hk.n1
 have HKB : Hid (∀ W, BW W1 W → W.cell? ⟨w.heap.size, 0, none⟩ = some (.slice A h.ps.length cap) ∧ W.cell? ⟨w.heap.size, 1, none⟩ = some (.slice J h.js.length capJ) ∧ W.cell? ⟨w.heap.size, 2, none⟩ = some (iv h.slo) ∧ W.cell? ⟨w.heap.size, 3, none⟩ = some (iv h.shi) ∧ W.cell? ⟨w.heap.size, 4, none⟩ = some (iv h.winch)) := Lq fun W hb => ⟨keepC hb p0, keepC hb p1, keepC hb p2, keepC hb p3, keepC hb p4⟩
 have hBz : B ≤ W1.heap.size := Nat.le_trans hB hb0.size
 have hzW : w.heap.size ≤ W1.heap.size := hb0.size
 have hfc : ∀ V, BW W1 V → Calls Tryz.prog 85 #[hv h A cap J capJ, .slice AL l.length capL, iv set] V (RowPost (filled h l set) h.ps.length V) := fun V hb => filled_any h A J B cap capJ AL l capL set V (hH.below (belowT hb0 hb) hB) hk (hL.below (belowT hb0 hb) hB) hw hf (Nat.le_trans hBz hb.size)
 have hfx : Box h (filled h l set) := filledTo_box hk.ps set _
 have hrc : ∀ V g c, BW W1 V → Rd1 iv V V.heap.size (some ⟨g, 0, none⟩) (rowW (filled h l set) h.ps.length) → Calls Tryz.prog 84 #[hv h A cap J capJ, .slice AL l.length capL, .slice (some ⟨g, 0, none⟩) h.ps.length c, iv set, iv ((h.ps.length : Int) * 100000)] V (RowPost (mostW h l set) h.ps.length V) := fun V g c hb hr => raised_any h A J B cap capJ AL l capL _ _ c set _ V (hH.below (belowT hb0 hb) hB) hk (hL.below (belowT hb0 hb) hB) hw hr hfx hf (by omega) (by omega) (Nat.le_trans hBz hb.size)
 have hac : ∀ V g c, BW W1 V → Rd1 iv V V.heap.size (some ⟨g, 0, none⟩) (rowW (mostW h l set) h.ps.length) → Calls Tryz.prog 86 #[.slice AL l.length capL, .slice (some ⟨g, 0, none⟩) h.ps.length c] V (Rt V (.bool (agreesB l (mostW h l set)))) := fun V g c hb hr => agrees_any AL l capL _ _ h.ps.length B c V hn8 (hL.below (belowT hb0 hb) hB) hw hr (box_wt hk.ps (mostW_box hk.ps set)) (Nat.le_trans hBz hb.size)
 have hwm : IntKind.i64.wrap ((h.ps.length : Int) * 100000) = (h.ps.length : Int) * 100000 := by rw [IntKind.wrap_i64]; omega
 have HFC := Lq hfc
 have HRC := Lq hrc
 have HAC := Lq hac
 have HB0 := Lq hb0
 obtain ⟨M, hM⟩ := ex (mostW h l set)
 rw [hM] at HRC HAC ⊢
 obtain ⟨F, hF⟩ := ex (filled h l set)
 rw [hF] at HFC HRC
 obtain ⟨AG, hAG⟩ := ex (agreesB l M)
 rw [hAG] at HAC ⊢
 clear hfc hrc hac hb0 hH hL hw hk hfx hM hF hAG hzz
 go_enter Tryz.func48, Tryz.ntmps48
 go_wp2_with fail
 clear hW1 p0 p1 p2 p3 p4
 have HBD := Lq (belowDq (belowR W1))
 go_region_held3 (fun W => W.cell? ⟨w.heap.size, 0, none⟩ = some (.slice A h.ps.length cap) ∧ W.cell? ⟨w.heap.size, 1, none⟩ = some (.slice J h.js.length capJ) ∧ W.cell? ⟨w.heap.size, 2, none⟩ = some (iv h.slo) ∧ W.cell? ⟨w.heap.size, 3, none⟩ = some (iv h.shi) ∧ W.cell? ⟨w.heap.size, 4, none⟩ = some (iv h.winch)) (first | exact HKB.out _ HBD.out | exact HKB.out _ HB2.out | exact HKB.out _ HB3.out) (((first | (go_at_call 85; ((with_reducible refine (HFC.out _ HBD.out).mono ?_); rintro e w2 ⟨hb2, g2, cap2, rfl, hown2⟩; have HB2 := Lq (belowT HBD.out hb2); have HR2 := Lq (row_rd hown2); clear hb2 hown2)) | (go_at_call 84; ((with_reducible refine (HRC.out _ g2 cap2 HB2.out HR2.out).mono ?_); rintro e w3 ⟨hb3, g3, cap3, rfl, hown3⟩; have HB3 := Lq (belowT HB2.out hb3); have HO3 := Lq (own_base hown3 (Nat.le_trans hzW HB2.out.size)); clear hb3 hown3)))))
 go_wp2_with fail
 refine (HAC.out _ _ _ HB3.out (row_rd HO3.out)).mono ?_
 rintro e w4 ⟨rfl, hb4⟩
 have HO4 := Lq (own_below HO3.out hb4)
 have HB4 := Lq (belowT HB3.out hb4)
 clear hb4
 go_wp2_with fail
 go_ret2
 exact ⟨belowT HB0.out HB4.out, g3, cap3, rfl, HO4.out⟩
theorem setsTo_of {h : Hul} {l : List Wgh} (hn8 : h.ps.length ≤ 8) {k : Nat} (hk : ∀ i, i < k → weighedE h.ps.length h.js l i = 0) : SetsTo l k := fun i y hi hy => by
 have h0 := hk i hi
 unfold weighedE at h0
 rw [hy] at h0
 simp only at h0
 split at h0
 ·rename_i hb
  obtain ⟨s, a, _, _, b, _⟩ := blockE_zero hn8 hb
  exact ⟨s, b, a⟩
 ·exact absurd h0 (by assumption)
theorem firstBad_no {f : Nat → Int} {k : Nat} (h : firstBad f k = none) : ∀ i, i < k → f i = 0 := firstBad_none h
theorem weighings_any (h : Hul) (A J : Option Addr) (B cap capJ : Nat) (AL : Option Addr) (l : List Wgh) (capL : Nat) (w : World)
  (hH : HulRd w B h A cap J capJ) (hL : RdN 3 encWgh w B AL l) (hlc : l.length ≤ maxLen) (hB : B ≤ w.heap.size) :
  Calls Tryz.prog 10 #[hv h A cap J capJ, .slice AL l.length capL] w (Rt w (iv (openE h l))) := by
 unfold maxLen at hlc
 obtain ⟨W1, hW1, hb0, hzz, p0, p1, p2, p3, p4⟩ := hulBox w h A cap J capJ
 have HKB : Hid (∀ W, BW W1 W → W.cell? ⟨w.heap.size, 0, none⟩ = some (.slice A h.ps.length cap) ∧ W.cell? ⟨w.heap.size, 1, none⟩ = some (.slice J h.js.length capJ) ∧ W.cell? ⟨w.heap.size, 2, none⟩ = some (iv h.slo) ∧ W.cell? ⟨w.heap.size, 3, none⟩ = some (iv h.shi) ∧ W.cell? ⟨w.heap.size, 4, none⟩ = some (iv h.winch)) := Lq fun W hb => ⟨keepC hb p0, keepC hb p1, keepC hb p2, keepC hb p3, keepC hb p4⟩
 have hBz : B ≤ W1.heap.size := Nat.le_trans hB hb0.size
 have HH := Lq (hH.below hb0 hB)
 have HL := Lq (hL.below hb0 hB)
 have HB0 := Lq hb0
 have hch := refCheck_any h A J B cap capJ W1 HH.out hBz
 obtain ⟨c1, c2, E, hc⟩ : ∃ a b c, checkE h = (a, b, c) := ⟨_, _, _, rfl⟩
 rw [hc] at hch
 unfold ret3 at hch
 simp only at hch
 have HCH := Lq hch
 have hE : (checkE h).2.2 = E := by rw [hc]
 clear hch hb0 hH hL hzz hc
 by_cases h1 : E = 0
 case neg =>
  have hr : openE h l = E := by unfold openE openPre; rw [hE, if_neg h1, if_neg h1]
  have HR := Lq hr
  have hne : (E == 0) = false := by simpa using h1
  clear hr h1 hE
  go_enter Tryz.func10, Tryz.ntmps10
  go_wp2_with fail
  refine HCH.out.mono ?_
  rintro e w2 ⟨rfl, hb2⟩
  have HB2 := Lq (belowT HB0.out hb2)
  clear hb2 hW1 p0 p1 p2 p3 p4
  go_wp2_with fail
  refine wp_loop_rounds 1 ?_
  rw [rounds_succ]
  by_cases hl0 : (0 : Int) < (l.length : Int)
  ·go_wp2_with fail
   go_ret
   exact ⟨by rw [HR.out]; rfl, HB2.out⟩
  ·go_wp2_with fail
   go_ret
   exact ⟨by rw [HR.out]; rfl, HB2.out⟩
 subst h1
 by_cases h2 : l.length ≤ 6
 case neg =>
  have hr : openE h l = 3 := by unfold openE openPre; rw [hE, if_pos rfl, if_neg h2]; rfl
  have HR := Lq hr
  have hd : (6 : Int) < (l.length : Int) := by omega
  have hl0 : (0 : Int) < (l.length : Int) := by omega
  clear hr hE
  go_enter Tryz.func10, Tryz.ntmps10
  go_wp2_with fail
  refine HCH.out.mono ?_
  rintro e w2 ⟨rfl, hb2⟩
  have HB2 := Lq (belowT HB0.out hb2)
  clear hb2 hW1 p0 p1 p2 p3 p4
  go_wp2_with fail
  refine wp_loop_rounds 1 ?_
  rw [rounds_succ]
  go_wp2_with fail
  go_ret
  exact ⟨by rw [HR.out]; rfl, HB2.out⟩
 have hk := hulOk hE
 have hn1 := hk.n1
 have hn8 := hk.n8
 have hop : openPre h l = weighedsE h l := by unfold openPre; rw [hE, if_pos rfl, if_pos h2]
 have HOP := Lq hop
 have HK := Lq hk
 have hd : ¬ (6 : Int) < (l.length : Int) := by omega
 have hd' : (l.length : Int) ≤ 6 := by omega
 clear hop hk
 go_enter Tryz.func10, Tryz.ntmps10
 go_wp2_with fail
 refine HCH.out.mono ?_
 rintro e w2 ⟨rfl, hb2⟩
 have HB2 := Lq hb2
 clear hb2 hW1 p0 p1 p2 p3 p4
 go_wp2_with fail
 go_loopw [7, 8] (fun vv vi wr => ∃ (k : Nat) (v : Int), k ≤ l.length ∧ vi = iv k ∧ vv = iv v ∧ Hid (v = 0 → firstBad (weighedE h.ps.length h.js l) k = none) ∧ Hid (v ≠ 0 → weighedsE h l = v) ∧ Hid (BW W1 wr)) (fun _ vi _ => l.length - (intOf vi).toNat)
 case atStart => exact ⟨0, 0, Nat.zero_le _, rfl, rfl, Lq (fun _ => rfl), Lq (fun h => absurd rfl h), HB2⟩
 case round =>
  obtain ⟨k, v, hk, rfl, rfl, HV0, HV1, HBR⟩ := hrel
  obtain ⟨p0, p1, p2, p3, p4⟩ := HKB.out _ HBR.out
  by_cases hstop : k < l.length ∧ v = 0
  ·obtain ⟨hlt, rfl⟩ := hstop
   have hfb := HV0.out rfl
   have hwc := refWeighed_any h A J B cap capJ AL l capL k wr (HH.out.below HBR.out hBz) hn1 hn8 HK.out.js HK.out.j12 (HL.out.below HBR.out hBz) h2 hlt (setsTo_of hn8 (firstBad_no hfb)) (Nat.le_trans hBz HBR.out.size)
   obtain ⟨V, hV⟩ := ex (weighedE h.ps.length h.js l k)
   rw [hV] at hwc
   have HFB := Lq hfb
   have HWC := Lq hwc
   have HVV := Lq hV
   have hk0 : (0 : Int) ≤ (k : Int) := by omega
   have hkl : (k : Int) < (l.length : Int) := by omega
   clear hfb hwc hV HV0 HV1
   go_wp2_with fail
   refine HWC.out.mono ?_
   rintro e w3 ⟨rfl, hb3⟩
   have HB3 := Lq (belowT HBR.out hb3)
   clear hb3
   go_wp2_with fail
   go_roundw
   case rel => exact ⟨k + 1, V, by omega, by go_num, rfl, Lq (fun h0 => firstBad_succ HFB.out (by rw [HVV.out]; exact h0)), Lq (fun h0 => by unfold weighedsE; rw [firstBad_at HFB.out (by rw [HVV.out]; exact h0) hlt]; exact HVV.out), HB3⟩
   case measure => simp [intOf]; omega
  ·by_cases h0 : v = 0
   ·subst h0
    obtain rfl : k = l.length := by
     by_cases hlt : k < l.length
     ·exact absurd ⟨hlt, rfl⟩ hstop
     ·omega
    have hfb := HV0.out rfl
    have hop0 : openPre h l = 0 := by rw [HOP.out]; unfold weighedsE; rw [hfb]
    obtain ⟨hlw, hps, hpos⟩ := lwOk hop0
    have hmf := hlw.most_feas hps hpos (set := allN h) (by unfold allN; have := Nat.one_le_two_pow (n := h.ps.length); omega)
    have hal : allN h < 256 := by
     have : 2 ^ h.ps.length ≤ 256 := Nat.pow_le_pow_right (n := 2) (by decide) hn8
     have := Nat.one_le_two_pow (n := h.ps.length)
     unfold allN; omega
    have hmc : ∀ V, BW wr V → Calls Tryz.prog 48 #[hv h A cap J capJ, .slice AL l.length capL, iv (allN h : Nat)] V (MostRow (mostW h l (allN h)) (agreesB l (mostW h l (allN h))) h.ps.length V) := fun V hb => most66_any h A J B cap capJ AL l capL (allN h) V (HH.out.below (belowT HBR.out hb) hBz) HK.out (HL.out.below (belowT HBR.out hb) hBz) (wghsOk hop0) hal (Nat.le_trans hBz (belowT HBR.out hb).size)
    have hac : ∀ V, Calls Tryz.prog 49 #[hv h A cap J capJ] V (Rt V (iv (allN h : Nat))) := fun V => all_any h A J cap capJ V hn8
    have hr : openE h l = if agreesB l (mostW h l (allN h)) = true then 0 else 9 := by
     unfold openE
     rw [if_pos hop0]
     by_cases hf : Feas h l
     ·rw [if_pos hf, if_pos (hmf.2 hf)]
     ·rw [if_neg hf, if_neg (fun h => hf (hmf.1 h))]
    obtain ⟨AG, hAG⟩ := ex (agreesB l (mostW h l (allN h)))
    rw [hAG] at hmc hr
    obtain ⟨M, hM⟩ := ex (mostW h l (allN h))
    rw [hM] at hmc
    obtain ⟨N, hN⟩ := ex (allN h)
    rw [hN] at hmc hac
    have HMC := Lq hmc
    have HAC := Lq hac
    have HR := Lq hr
    have HKW : Hid (∀ W, BW wr W → W.cell? ⟨w.heap.size, 0, none⟩ = some (.slice A h.ps.length cap) ∧ W.cell? ⟨w.heap.size, 1, none⟩ = some (.slice J h.js.length capJ) ∧ W.cell? ⟨w.heap.size, 2, none⟩ = some (iv h.slo) ∧ W.cell? ⟨w.heap.size, 3, none⟩ = some (iv h.shi) ∧ W.cell? ⟨w.heap.size, 4, none⟩ = some (iv h.winch)) := Lq fun W hb => HKB.out W (belowT HBR.out hb)
    clear hfb hop0 hlw hps hpos hmf hmc hac hr hAG hM hN hal hstop HV0 HV1
    go_wp2_with fail
    clear p0 p1 p2 p3 p4
    have HBD := Lq (belowDq (belowR wr))
    go_region_held3 (fun W => W.cell? ⟨w.heap.size, 0, none⟩ = some (.slice A h.ps.length cap) ∧ W.cell? ⟨w.heap.size, 1, none⟩ = some (.slice J h.js.length capJ) ∧ W.cell? ⟨w.heap.size, 2, none⟩ = some (iv h.slo) ∧ W.cell? ⟨w.heap.size, 3, none⟩ = some (iv h.shi) ∧ W.cell? ⟨w.heap.size, 4, none⟩ = some (iv h.winch)) (first | exact HKW.out _ HBD.out | exact HKW.out _ HB3.out | exact HKW.out _ HB4.out) (((first | (go_at_call 49; ((with_reducible refine (HAC.out _).mono ?_); rintro e w3 ⟨rfl, hb3⟩; have HB3 := Lq (belowT HBD.out hb3); clear hb3)) | (go_at_call 48; ((with_reducible refine (HMC.out _ HB3.out).mono ?_); rintro e w4 ⟨hb4, g4, cap4, rfl, hown4⟩; have HB4 := Lq (belowT HB3.out hb4); clear hb4 hown4)))))
    cases AG
    ·go_wp2_with fail
     go_ret
     exact ⟨by rw [HR.out]; rfl, belowT HB0.out (belowT HBR.out HB4.out)⟩
    ·go_wp2_with fail
     go_ret
     exact ⟨by rw [HR.out]; rfl, belowT HB0.out (belowT HBR.out HB4.out)⟩
   ·have hr : openE h l = v := by unfold openE; rw [HOP.out, HV1.out h0, if_neg h0]
    have HR := Lq hr
    have hne : (v == 0) = false := by simpa using h0
    clear hr h0 hstop
    by_cases hlt : k < l.length
    ·go_wp2_with fail
     go_ret
     exact ⟨by rw [HR.out]; rfl, belowT HB0.out HBR.out⟩
    ·go_wp2_with fail
     go_ret
     exact ⟨by rw [HR.out]; rfl, belowT HB0.out HBR.out⟩

def U32s (us : List Int) : Prop := us.length ≤ maxLen ∧ ∀ x ∈ us, 0 ≤ x ∧ x ≤ 4294967295
end Go.Proofs.YtmhjhbchokbonaaGreat
