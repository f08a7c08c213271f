/- The laws' holds, for weights of a truth. The plain law of BlockReached; a part's weight stored in a row of parts. -/
import Derived.Test.YtojgdallodmanaaYTrue
import Derived.Test.YtojgdallodmanaaYH5
namespace Go.Proofs.Ytojgdallodmanaa
open Go.RowKit

set_option maxRecDepth 100000 in
set_option maxHeartbeats 8000000 in
theorem holds_any (h : Hul) (A J : Option Addr) (B cap capJ : Nat) (AL : Option Addr) (l : List Wgh) (capL : Nat) (AW : Option Addr) (W : Nat → Int) (capW : Nat) (w : World) (hH : HulRd w B h A cap J capJ) (hk : HulOk h)
    (hL : RdN 3 encWgh w B AL l) (hw : WghsOk h.ps.length l) (hW : Rd1 iv w w.heap.size AW (rowW W h.ps.length)) (ht : TruthP h l W) (hB : B ≤ w.heap.size) :
    Calls Try.prog 46 #[hv h A cap J capJ, .slice AL l.length capL, .slice AW h.ps.length capW] w fun e w' => e = .returned (.bool true) ∧ Below w.heap.size w w' := by
  obtain ⟨W1, hW1, hb0, hzz, p0, p1, p2, p3, p4⟩ := hulBox w h A cap J capJ
  have hn8 := hk.n8
  have hn1 := hk.n1
  have HKB : Hid (∀ W, Below W1.heap.size W1 W → W.cell? ⟨w.heap.size, 0, none⟩ = some (.slice A h.ps.length cap)) := Lib.hid fun W hb => keepC hb p0
  have hBz : B ≤ W1.heap.size := Nat.le_trans hB hb0.size
  have hzW : w.heap.size ≤ W1.heap.size := hb0.size
  have HP := Lib.hid (hH.ps.below hb0 hB)
  have HL := Lib.hid (hL.below hb0 hB)
  have HW := Lib.hid (hW.below hb0 (Nat.le_refl _))
  have HB0 := Lib.hid hb0
  have hbx : Box h W := ht.1
  have hag : agreesB l W = true := agrees_iff.2 ht.2
  have hac : ∀ V, Below W1.heap.size W1 V → Calls Try.prog 94 #[.slice AL l.length capL, .slice AW h.ps.length capW] V fun e w' => e = .returned (.bool true) ∧ Below V.heap.size V w' := fun V hb => by
    rw [← hag]
    exact agrees_any AL l capL AW W h.ps.length B capW V hn8 (HL.out.below hb hBz) hw ((HW.out.below hb hzW).more (Nat.le_trans hzW hb.size)) (box_wt hk.ps hbx) (Nat.le_trans hBz hb.size)
  have HAC := Lib.hid hac
  have HBX := Lib.hid (fun i p (hp : h.ps[i]? = some p) => hbx i p hp)
  have hpm := hH.pm
  have hpl := hH.pl
  unfold maxLen at hpm
  clear hb0 hH hL hW hk ht hzz hac hag hbx hw
  go_enter Try.func46, Try.ntmps46
  go_wp2_with fail
  clear hW1 p0 p1 p2 p3 p4
  obtain ⟨wq, hwq⟩ : ∃ wq : World, wq = W1 := ⟨_, rfl⟩
  have HBQ : Hid (Below W1.heap.size W1 wq) := Lib.hid (by rw [hwq]; exact belowR _)
  rw [← hwq]
  clear hwq
  go_loopw [7] (fun vi wr => ∃ k : Nat, k ≤ h.ps.length ∧ vi = .int .i64 k ∧ Hid (Below W1.heap.size W1 wr)) (fun vi _ => h.ps.length - (intOf vi).toNat)
  case atStart => exact ⟨0, Nat.zero_le _, rfl, HBQ⟩
  case round =>
    obtain ⟨k, hk, rfl, HBR⟩ := hrel
    have p0 := HKB.out _ HBR.out
    by_cases hlt : k < h.ps.length
    · obtain ⟨x, hx⟩ : ∃ x, h.ps[k]? = some x := ⟨_, List.getElem?_eq_getElem hlt⟩
      have hxb := HBX.out k x hx
      obtain ⟨b, off, rfl, _, e0, e1, e2⟩ := prtAt (HP.out.below HBR.out hBz) hx
      obtain ⟨b9, o9, rfl, _, hc9⟩ := (HW.out.below HBR.out hzW) k (W k) (rowW_at W hlt)
      obtain ⟨y, hy⟩ : ∃ y, W k = y := ⟨_, rfl⟩
      rw [hy] at hxb hc9
      obtain ⟨xn, xlo, xhi⟩ := x
      simp only at e0 e1 e2 hxb
      have hk0 : (0 : Int) ≤ (k : Int) := by omega
      have hkz : (k : Int) < (h.ps.length : Int) := by omega
      have hd1 : decide (y < xlo) = false := by simpa using hxb.1
      have hd2 : decide (xhi < y) = false := by simpa using hxb.2
      obtain ⟨hxb0, hxb1⟩ := hxb
      clear hx hy e0
      go_wp2_with fail
      go_quiet (fail)
      go_wp2_with fail
      go_roundw
      case rel => exact ⟨k + 1, by omega, by go_num, Lib.hid (belowN HBR.out _)⟩
      case measure => simp [intOf]; omega
    · obtain rfl : k = h.ps.length := by omega
      go_wp2_with (go_at_call 94; (with_reducible refine (HAC.out _ HBR.out).mono ?_); rintro e w3 ⟨rfl, hb3⟩; have HB3 := Lib.hid (belowT HBR.out hb3); clear hb3)
      go_ret
      exact ⟨rfl, belowT HB0.out HB3.out⟩
end Go.Proofs.Ytojgdallodmanaa

namespace Go.Proofs.Ytojgdallodmanaa
open Go.RowKit

/-- A part with one weight. -/
def fixedPs (ps : List Prt) (i : Nat) (X : Int) : List Prt := match ps[i]? with
  | some p => ps.set i ⟨p.name, X, X⟩
  | none => ps
theorem fixedPs_len (ps : List Prt) (i : Nat) (X : Int) : (fixedPs ps i X).length = ps.length := by unfold fixedPs; split <;> simp
theorem fixed_names {ps : List Prt} (hn : ∀ p ∈ ps, p.name.size ≤ maxLen) (i : Nat) (X : Int) : ∀ p ∈ fixedPs ps i X, p.name.size ≤ maxLen := fun q hq => by
  unfold fixedPs at hq
  split at hq
  · rename_i p hp
    rcases List.mem_or_eq_of_mem_set hq with h | h
    · exact hn q h
    · subst h; exact hn p (List.mem_of_getElem? hp)
  · exact hn q hq
section
variable {h : Hul} {l : List Wgh} {N : List Nd} {i : Nat} {p : Prt}
theorem fixed_pre (hp : openPre h l = 0) (hi : h.ps[i]? = some p) {X : Int} (h1 : p.lo ≤ X) (h2 : X ≤ p.hi) : openPre (withPs h (fixedPs h.ps i X)) l = 0 := by
  have hk := hulOk (openPre_zero hp).1
  have hpo := hk.ps p (List.mem_of_getElem? hi)
  unfold fixedPs
  rw [hi]
  exact pre_withPs hp (set_names hi _ _) (set_psok hk.ps (by omega) (Int.le_refl _) (by omega))
theorem fixed_truth (hi : h.ps[i]? = some p) {X : Int} (h1 : p.lo ≤ X) (h2 : X ≤ p.hi) (w : Nat → Int) : TruthP (withPs h (fixedPs h.ps i X)) l w ↔ TruthP h l w ∧ w i = X := by
  unfold fixedPs
  rw [hi]
  simp only
  rw [truth_set (h := h) (ps := h.ps) hi h1 h2 w]
  constructor
  · rintro ⟨a, b, c⟩; exact ⟨a, by omega⟩
  · rintro ⟨a, b⟩; exact ⟨a, by omega, by omega⟩
theorem reach_in (hp : openPre h l = 0) (hf : Feas h l) (hN : IsTree h l N) (hi : h.ps[i]? = some p) :
    p.lo ≤ leastV h N (2 ^ i) ∧ leastV h N (2 ^ i) ≤ mostV h N (2 ^ i) ∧ mostV h N (2 ^ i) ≤ p.hi := by
  have hk := hulOk (openPre_zero hp).1
  have hil := (List.getElem?_eq_some_iff.1 hi).1
  have hn8 := hk.n8
  have hp2 : 2 ^ i < 2 ^ h.ps.length := Nat.pow_lt_pow_right (by decide) hil
  obtain ⟨l1, w, hw, hws⟩ := leastV_is hp hN hf hp2
  obtain ⟨m1, v, hv, hvs⟩ := mostV_is hp hN hf hp2
  have a := m1 w hw
  rw [sumS_single w (by omega)] at hws
  rw [sumS_single v (by omega)] at hvs
  have b := (hw.1 i p hi).1
  have c := (hv.1 i p hi).2
  rw [sumS_single w (by omega)] at a
  omega
theorem reach_yes (hp : openPre h l = 0) (hf : Feas h l) (hN : IsTree h l N) (hi : h.ps[i]? = some p) {X : Int} (hX : X = leastV h N (2 ^ i) ∨ X = mostV h N (2 ^ i)) : openE (withPs h (fixedPs h.ps i X)) l = 0 := by
  have hk := hulOk (openPre_zero hp).1
  have hil := (List.getElem?_eq_some_iff.1 hi).1
  have hn8 := hk.n8
  have hp2 : 2 ^ i < 2 ^ h.ps.length := Nat.pow_lt_pow_right (by decide) hil
  obtain ⟨a, b, c⟩ := reach_in hp hf hN hi
  obtain ⟨l1, w, hw, hws⟩ := leastV_is hp hN hf hp2
  obtain ⟨m1, v, hv, hvs⟩ := mostV_is hp hN hf hp2
  rw [sumS_single w (by omega)] at hws
  rw [sumS_single v (by omega)] at hvs
  refine openE_zero (fixed_pre hp hi (by omega) (by omega)) ?_
  rcases hX with rfl | rfl
  · exact ⟨w, (fixed_truth hi (by omega) (by omega) w).2 ⟨hw, hws⟩⟩
  · exact ⟨v, (fixed_truth hi (by omega) (by omega) v).2 ⟨hv, hvs⟩⟩
theorem reach_no (hp : openPre h l = 0) (hf : Feas h l) (hN : IsTree h l N) (hi : h.ps[i]? = some p) {X : Int} (h1 : p.lo ≤ X) (h2 : X ≤ p.hi) (hX : X < leastV h N (2 ^ i) ∨ mostV h N (2 ^ i) < X) : openE (withPs h (fixedPs h.ps i X)) l = 9 := by
  have hk := hulOk (openPre_zero hp).1
  have hil := (List.getElem?_eq_some_iff.1 hi).1
  have hn8 := hk.n8
  have hp2 : 2 ^ i < 2 ^ h.ps.length := Nat.pow_lt_pow_right (by decide) hil
  have l1 := (leastV_is hp hN hf hp2).1
  have m1 := (mostV_is hp hN hf hp2).1
  unfold openE
  rw [if_pos (fixed_pre hp hi h1 h2), if_neg]
  rintro ⟨w, hw⟩
  obtain ⟨hw', hwi⟩ := (fixed_truth hi h1 h2 w).1 hw
  have a := l1 w hw'
  have b := m1 w hw'
  rw [sumS_single w (by omega)] at a b
  omega
end

/-- A row of parts of which one's weight is stored anew. -/
theorem prts_set {w : World} {B g : Nat} {ps : List Prt} (hR : RdN 3 encPrt w B (some ⟨g, 0, none⟩) ps) {i : Nat} (X : Int) : RdN 3 encPrt ((w.setCell ⟨g, i * 3 + 1, none⟩ (iv X)).setCell ⟨g, i * 3 + 2, none⟩ (iv X)) B (some ⟨g, 0, none⟩) (fixedPs ps i X) := by
  intro j x hx
  have hjl : j < ps.length := by have := (List.getElem?_eq_some_iff.1 hx).1; rw [fixedPs_len] at this; exact this
  obtain ⟨y, hy⟩ : ∃ y, ps[j]? = some y := ⟨_, List.getElem?_eq_getElem hjl⟩
  obtain ⟨b, off, e, hb, hc⟩ := hR j y hy
  injection e with e
  injection e with e1 e2
  subst e1 e2
  refine ⟨g, 0, rfl, hb, fun q u hu => ?_⟩
  by_cases hij : i = j
  · subst hij
    unfold fixedPs at hx
    rw [hy] at hx
    simp only [List.getElem?_set, if_true, if_pos hjl, Option.some.injEq] at hx
    subst hx
    have c0 := hc 0 _ rfl
    have c1 := hc 1 _ rfl
    have c2 := hc 2 _ rfl
    match q, hu with
    | 0, hu =>
      simp [encPrt] at hu
      subst hu
      refine (World.cell?_setCell_other _ _ _ _ (by simp)).trans ((World.cell?_setCell_other _ _ _ _ (by simp)).trans c0)
    | 1, hu =>
      simp [encPrt] at hu
      subst hu
      simp only [Nat.zero_add] at c1 ⊢
      refine (World.cell?_setCell_other _ _ _ _ (by simp)).trans ?_
      exact World.cell?_setCell_same _ _ _ c1
    | 2, hu =>
      simp [encPrt] at hu
      subst hu
      simp only [Nat.zero_add] at c2 ⊢
      have c2' : (w.setCell ⟨g, i * 3 + 1, none⟩ (iv X)).cell? ⟨g, i * 3 + 2, none⟩ = some (iv y.hi) := (World.cell?_setCell_other _ _ _ _ (by simp)).trans c2
      exact World.cell?_setCell_same _ _ _ c2'
  · have hxy : x = y := by
      unfold fixedPs at hx
      split at hx
      · rw [List.getElem?_set_ne hij, hy] at hx
        injection hx with hx
        exact hx.symm
      · rw [hy] at hx
        injection hx with hx
        exact hx.symm
    subst hxy
    have hq : q < 3 := (List.getElem?_eq_some_iff.1 hu).1
    refine (World.cell?_setCell_other _ _ _ _ (fun e => ?_)).trans ((World.cell?_setCell_other _ _ _ _ (fun e => ?_)).trans (hc q u hu))
    · injection e with _ e2; omega
    · injection e with _ e2; omega
end Go.Proofs.Ytojgdallodmanaa
