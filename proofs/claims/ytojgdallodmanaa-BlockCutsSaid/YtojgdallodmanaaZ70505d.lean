/- The laws' holds, for weights of a truth. The plain law of BlockReached; a part's weight stored in a row of parts. The reference's Heaviest: the least weight of a part with which the block can be as heavy. The plain law. No program is named here. The reference's limited (printed by mkG4.py). -/
import Derived.Deep.DeepCutAuto
import Derived.Test.YtojgdallodmanaaZc367d5
import Derived.Test.YtojgdallodmanaaZ716ab2
import Derived.Test.YtojgdallodmanaaZ654d27
import Derived.Test.YtojgdallodmanaaYH5
namespace Go.Proofs.Ytojgdallodmanaa
open Go.RowKit

set_option maxRecDepth 100000 in
set_option maxHeartbeats 8000000 in
theorem holds_any (h : Hul) (A J : Option Addr) (B cap capJ : Nat) (AL : Option Addr) (l : List Wgh) (capL : Nat) (AW : Option Addr) (W : Nat → Int) (capW : Nat) (w : World) (hH : HulRd w B h A cap J capJ) (hk : HulOk h)
    (hL : RdN 3 encWgh w B AL l) (hw : WghsOk h.ps.length l) (hW : Rd1 iv w w.heap.size AW (rowW W h.ps.length)) (ht : TruthP h l W) (hB : B ≤ w.heap.size) :
    Calls Try.prog 46 #[hv h A cap J capJ, .slice AL l.length capL, .slice AW h.ps.length capW] w fun e w' => e = .returned (.bool true) ∧ Below w.heap.size w w' := by
  obtain ⟨W1, hW1, hb0, hzz, p0, p1, p2, p3, p4⟩ := hulBox w h A cap J capJ
  have hn8 := hk.n8
  have hn1 := hk.n1
  have HKB : Hid (∀ W, Below W1.heap.size W1 W → W.cell? ⟨w.heap.size, 0, none⟩ = some (.slice A h.ps.length cap)) := Lib.hid fun W hb => keepC hb p0
  have hBz : B ≤ W1.heap.size := Nat.le_trans hB hb0.size
  have hzW : w.heap.size ≤ W1.heap.size := hb0.size
  have HP := Lib.hid (hH.ps.below hb0 hB)
  have HL := Lib.hid (hL.below hb0 hB)
  have HW := Lib.hid (hW.below hb0 (Nat.le_refl _))
  have HB0 := Lib.hid hb0
  have hbx : Box h W := ht.1
  have hag : agreesB l W = true := agrees_iff.2 ht.2
  have hac : ∀ V, Below W1.heap.size W1 V → Calls Try.prog 94 #[.slice AL l.length capL, .slice AW h.ps.length capW] V fun e w' => e = .returned (.bool true) ∧ Below V.heap.size V w' := fun V hb => by
    rw [← hag]
    exact agrees_any AL l capL AW W h.ps.length B capW V hn8 (HL.out.below hb hBz) hw ((HW.out.below hb hzW).more (Nat.le_trans hzW hb.size)) (box_wt hk.ps hbx) (Nat.le_trans hBz hb.size)
  have HAC := Lib.hid hac
  have HBX := Lib.hid (fun i p (hp : h.ps[i]? = some p) => hbx i p hp)
  have hpm := hH.pm
  have hpl := hH.pl
  unfold maxLen at hpm
  clear hb0 hH hL hW hk ht hzz hac hag hbx hw
  go_enter Try.func46, Try.ntmps46
  go_wp2_with fail
  clear hW1 p0 p1 p2 p3 p4
  obtain ⟨wq, hwq⟩ : ∃ wq : World, wq = W1 := ⟨_, rfl⟩
  have HBQ : Hid (Below W1.heap.size W1 wq) := Lib.hid (by rw [hwq]; exact belowR _)
  rw [← hwq]
  clear hwq
  go_loopw [7] (fun vi wr => ∃ k : Nat, k ≤ h.ps.length ∧ vi = .int .i64 k ∧ Hid (Below W1.heap.size W1 wr)) (fun vi _ => h.ps.length - (intOf vi).toNat)
  case atStart => exact ⟨0, Nat.zero_le _, rfl, HBQ⟩
  case round =>
    obtain ⟨k, hk, rfl, HBR⟩ := hrel
    have p0 := HKB.out _ HBR.out
    by_cases hlt : k < h.ps.length
    · obtain ⟨x, hx⟩ : ∃ x, h.ps[k]? = some x := ⟨_, List.getElem?_eq_getElem hlt⟩
      have hxb := HBX.out k x hx
      obtain ⟨b, off, rfl, _, e0, e1, e2⟩ := prtAt (HP.out.below HBR.out hBz) hx
      obtain ⟨b9, o9, rfl, _, hc9⟩ := (HW.out.below HBR.out hzW) k (W k) (rowW_at W hlt)
      obtain ⟨y, hy⟩ : ∃ y, W k = y := ⟨_, rfl⟩
      rw [hy] at hxb hc9
      obtain ⟨xn, xlo, xhi⟩ := x
      simp only at e0 e1 e2 hxb
      have hk0 : (0 : Int) ≤ (k : Int) := by omega
      have hkz : (k : Int) < (h.ps.length : Int) := by omega
      have hd1 : decide (y < xlo) = false := by simpa using hxb.1
      have hd2 : decide (xhi < y) = false := by simpa using hxb.2
      obtain ⟨hxb0, hxb1⟩ := hxb
      clear hx hy e0
      go_wp2_with fail
      go_quiet (fail)
      go_wp2_with fail
      go_roundw
      case rel => exact ⟨k + 1, by omega, by go_num, Lib.hid (belowN HBR.out _)⟩
      case measure => simp [intOf]; omega
    · obtain rfl : k = h.ps.length := by omega
      go_wp2_with (go_at_call 94; (with_reducible refine (HAC.out _ HBR.out).mono ?_); rintro e w3 ⟨rfl, hb3⟩; have HB3 := Lib.hid (belowT HBR.out hb3); clear hb3)
      go_ret
      exact ⟨rfl, belowT HB0.out HB3.out⟩
end Go.Proofs.Ytojgdallodmanaa

namespace Go.Proofs.Ytojgdallodmanaa
open Go.RowKit

/-- A part with one weight. -/
def fixedPs (ps : List Prt) (i : Nat) (X : Int) : List Prt := match ps[i]? with
  | some p => ps.set i ⟨p.name, X, X⟩
  | none => ps
theorem fixedPs_len (ps : List Prt) (i : Nat) (X : Int) : (fixedPs ps i X).length = ps.length := by unfold fixedPs; split <;> simp
theorem fixed_names {ps : List Prt} (hn : ∀ p ∈ ps, p.name.size ≤ maxLen) (i : Nat) (X : Int) : ∀ p ∈ fixedPs ps i X, p.name.size ≤ maxLen := fun q hq => by
  unfold fixedPs at hq
  split at hq
  · rename_i p hp
    rcases List.mem_or_eq_of_mem_set hq with h | h
    · exact hn q h
    · subst h; exact hn p (List.mem_of_getElem? hp)
  · exact hn q hq
section
variable {h : Hul} {l : List Wgh} {N : List Nd} {i : Nat} {p : Prt}
theorem fixed_pre (hp : openPre h l = 0) (hi : h.ps[i]? = some p) {X : Int} (h1 : p.lo ≤ X) (h2 : X ≤ p.hi) : openPre (withPs h (fixedPs h.ps i X)) l = 0 := by
  have hk := hulOk (openPre_zero hp).1
  have hpo := hk.ps p (List.mem_of_getElem? hi)
  unfold fixedPs
  rw [hi]
  exact pre_withPs hp (set_names hi _ _) (set_psok hk.ps (by omega) (Int.le_refl _) (by omega))
theorem fixed_truth (hi : h.ps[i]? = some p) {X : Int} (h1 : p.lo ≤ X) (h2 : X ≤ p.hi) (w : Nat → Int) : TruthP (withPs h (fixedPs h.ps i X)) l w ↔ TruthP h l w ∧ w i = X := by
  unfold fixedPs
  rw [hi]
  simp only
  rw [truth_set (h := h) (ps := h.ps) hi h1 h2 w]
  constructor
  · rintro ⟨a, b, c⟩; exact ⟨a, by omega⟩
  · rintro ⟨a, b⟩; exact ⟨a, by omega, by omega⟩
theorem reach_in (hp : openPre h l = 0) (hf : Feas h l) (hN : IsTree h l N) (hi : h.ps[i]? = some p) :
    p.lo ≤ leastV h N (2 ^ i) ∧ leastV h N (2 ^ i) ≤ mostV h N (2 ^ i) ∧ mostV h N (2 ^ i) ≤ p.hi := by
  have hk := hulOk (openPre_zero hp).1
  have hil := (List.getElem?_eq_some_iff.1 hi).1
  have hn8 := hk.n8
  have hp2 : 2 ^ i < 2 ^ h.ps.length := Nat.pow_lt_pow_right (by decide) hil
  obtain ⟨l1, w, hw, hws⟩ := leastV_is hp hN hf hp2
  obtain ⟨m1, v, hv, hvs⟩ := mostV_is hp hN hf hp2
  have a := m1 w hw
  rw [sumS_single w (by omega)] at hws
  rw [sumS_single v (by omega)] at hvs
  have b := (hw.1 i p hi).1
  have c := (hv.1 i p hi).2
  rw [sumS_single w (by omega)] at a
  omega
theorem reach_yes (hp : openPre h l = 0) (hf : Feas h l) (hN : IsTree h l N) (hi : h.ps[i]? = some p) {X : Int} (hX : X = leastV h N (2 ^ i) ∨ X = mostV h N (2 ^ i)) : openE (withPs h (fixedPs h.ps i X)) l = 0 := by
  have hk := hulOk (openPre_zero hp).1
  have hil := (List.getElem?_eq_some_iff.1 hi).1
  have hn8 := hk.n8
  have hp2 : 2 ^ i < 2 ^ h.ps.length := Nat.pow_lt_pow_right (by decide) hil
  obtain ⟨a, b, c⟩ := reach_in hp hf hN hi
  obtain ⟨l1, w, hw, hws⟩ := leastV_is hp hN hf hp2
  obtain ⟨m1, v, hv, hvs⟩ := mostV_is hp hN hf hp2
  rw [sumS_single w (by omega)] at hws
  rw [sumS_single v (by omega)] at hvs
  refine openE_zero (fixed_pre hp hi (by omega) (by omega)) ?_
  rcases hX with rfl | rfl
  · exact ⟨w, (fixed_truth hi (by omega) (by omega) w).2 ⟨hw, hws⟩⟩
  · exact ⟨v, (fixed_truth hi (by omega) (by omega) v).2 ⟨hv, hvs⟩⟩
theorem reach_no (hp : openPre h l = 0) (hf : Feas h l) (hN : IsTree h l N) (hi : h.ps[i]? = some p) {X : Int} (h1 : p.lo ≤ X) (h2 : X ≤ p.hi) (hX : X < leastV h N (2 ^ i) ∨ mostV h N (2 ^ i) < X) : openE (withPs h (fixedPs h.ps i X)) l = 9 := by
  have hk := hulOk (openPre_zero hp).1
  have hil := (List.getElem?_eq_some_iff.1 hi).1
  have hn8 := hk.n8
  have hp2 : 2 ^ i < 2 ^ h.ps.length := Nat.pow_lt_pow_right (by decide) hil
  have l1 := (leastV_is hp hN hf hp2).1
  have m1 := (mostV_is hp hN hf hp2).1
  unfold openE
  rw [if_pos (fixed_pre hp hi h1 h2), if_neg]
  rintro ⟨w, hw⟩
  obtain ⟨hw', hwi⟩ := (fixed_truth hi h1 h2 w).1 hw
  have a := l1 w hw'
  have b := m1 w hw'
  rw [sumS_single w (by omega)] at a b
  omega
end

/-- A row of parts of which one's weight is stored anew. -/
theorem prts_set {w : World} {B g : Nat} {ps : List Prt} (hR : RdN 3 encPrt w B (some ⟨g, 0, none⟩) ps) {i : Nat} (X : Int) : RdN 3 encPrt ((w.setCell ⟨g, i * 3 + 1, none⟩ (iv X)).setCell ⟨g, i * 3 + 2, none⟩ (iv X)) B (some ⟨g, 0, none⟩) (fixedPs ps i X) := by
  intro j x hx
  have hjl : j < ps.length := by have := (List.getElem?_eq_some_iff.1 hx).1; rw [fixedPs_len] at this; exact this
  obtain ⟨y, hy⟩ : ∃ y, ps[j]? = some y := ⟨_, List.getElem?_eq_getElem hjl⟩
  obtain ⟨b, off, e, hb, hc⟩ := hR j y hy
  injection e with e
  injection e with e1 e2
  subst e1 e2
  refine ⟨g, 0, rfl, hb, fun q u hu => ?_⟩
  by_cases hij : i = j
  · subst hij
    unfold fixedPs at hx
    rw [hy] at hx
    simp only [List.getElem?_set, if_true, if_pos hjl, Option.some.injEq] at hx
    subst hx
    have c0 := hc 0 _ rfl
    have c1 := hc 1 _ rfl
    have c2 := hc 2 _ rfl
    match q, hu with
    | 0, hu =>
      simp [encPrt] at hu
      subst hu
      refine (World.cell?_setCell_other _ _ _ _ (by simp)).trans ((World.cell?_setCell_other _ _ _ _ (by simp)).trans c0)
    | 1, hu =>
      simp [encPrt] at hu
      subst hu
      simp only [Nat.zero_add] at c1 ⊢
      refine (World.cell?_setCell_other _ _ _ _ (by simp)).trans ?_
      exact World.cell?_setCell_same _ _ _ c1
    | 2, hu =>
      simp [encPrt] at hu
      subst hu
      simp only [Nat.zero_add] at c2 ⊢
      have c2' : (w.setCell ⟨g, i * 3 + 1, none⟩ (iv X)).cell? ⟨g, i * 3 + 2, none⟩ = some (iv y.hi) := (World.cell?_setCell_other _ _ _ _ (by simp)).trans c2
      exact World.cell?_setCell_same _ _ _ c2'
  · have hxy : x = y := by
      unfold fixedPs at hx
      split at hx
      · rw [List.getElem?_set_ne hij, hy] at hx
        injection hx with hx
        exact hx.symm
      · rw [hy] at hx
        injection hx with hx
        exact hx.symm
    subst hxy
    have hq : q < 3 := (List.getElem?_eq_some_iff.1 hu).1
    refine (World.cell?_setCell_other _ _ _ _ (fun e => ?_)).trans ((World.cell?_setCell_other _ _ _ _ (fun e => ?_)).trans (hc q u hu))
    · injection e with _ e2; omega
    · injection e with _ e2; omega
end Go.Proofs.Ytojgdallodmanaa

namespace Go.Proofs.Ytojgdallodmanaa
open Go.RowKit

/-- A part with other ends of its range. -/
def limPs (ps : List Prt) (i : Nat) (lo hi : Int) : List Prt := match ps[i]? with
  | some p => ps.set i ⟨p.name, lo, hi⟩
  | none => ps
theorem limPs_len (ps : List Prt) (i : Nat) (lo hi : Int) : (limPs ps i lo hi).length = ps.length := by unfold limPs; split <;> simp
theorem limPs_step (ps : List Prt) (i : Nat) (v : Int) : limPs ps i v v = limStep ps i v := rfl
def IsLow (h : Hul) (l : List Wgh) (s : Nat) (M : Int) (ps : List Prt) (i : Nat) (v : Int) : Prop :=
  (∃ w, TruthP (withPs h ps) l w ∧ sumS w s = M ∧ w i = v) ∧ ∀ w, TruthP (withPs h ps) l w → sumS w s = M → v ≤ w i
theorem IsLow.uniq {h : Hul} {l : List Wgh} {s : Nat} {M : Int} {ps : List Prt} {i : Nat} {v v' : Int} (a : IsLow h l s M ps i v) (b : IsLow h l s M ps i v') : v = v' := by
  obtain ⟨⟨w, w1, w2, w3⟩, a2⟩ := a
  obtain ⟨⟨u, u1, u2, u3⟩, b2⟩ := b
  have := a2 u u1 u2
  have := b2 w w1 w2
  omega
open Classical in
noncomputable def lowC (h : Hul) (l : List Wgh) (s : Nat) (M : Int) (ps : List Prt) (i : Nat) : Int := if hx : ∃ v, IsLow h l s M ps i v then hx.choose else 0
theorem lowC_eq {h : Hul} {l : List Wgh} {s : Nat} {M : Int} {ps : List Prt} {i : Nat} {v : Int} (a : IsLow h l s M ps i v) : lowC h l s M ps i = v := by
  unfold lowC
  rw [dif_pos ⟨v, a⟩]
  exact (Exists.choose_spec (⟨v, a⟩ : ∃ v, IsLow h l s M ps i v)).uniq a
noncomputable def lowTo (h : Hul) (l : List Wgh) (s : Nat) (M : Int) (ps : List Prt) : Nat → List Prt
  | 0 => ps
  | i + 1 => limPs (lowTo h l s M ps i) i (lowC h l s M (lowTo h l s M ps i) i) (lowC h l s M (lowTo h l s M ps i) i)
noncomputable def lowL (h : Hul) (l : List Wgh) (s : Nat) (M : Int) (n : Nat) : List Int := (List.range n).map fun i => lowC h l s M (lowTo h l s M h.ps i) i
theorem lowL_succ (h : Hul) (l : List Wgh) (s : Nat) (M : Int) (n : Nat) : lowL h l s M (n + 1) = lowL h l s M n ++ [lowC h l s M (lowTo h l s M h.ps n) n] := by simp [lowL, List.range_succ]
theorem lowL_len (h : Hul) (l : List Wgh) (s : Nat) (M : Int) (n : Nat) : (lowL h l s M n).length = n := by simp [lowL]
section
variable {h : Hul} {l : List Wgh} {N : List Nd} {s : Nat} {M : Int} {ps : List Prt} {i : Nat} {p : Prt}
theorem lim_names (hi : ps[i]? = some p) (lo hi' : Int) : (limPs ps i lo hi').map Prt.name = ps.map Prt.name := by
  unfold limPs; rw [hi]; exact set_names hi lo hi'
theorem lim_truth (hi : ps[i]? = some p) {lo hi' : Int} (h1 : p.lo ≤ lo) (h2 : hi' ≤ p.hi) (w : Nat → Int) : TruthP (withPs h (limPs ps i lo hi')) l w ↔ TruthP (withPs h ps) l w ∧ lo ≤ w i ∧ w i ≤ hi' := by
  unfold limPs; rw [hi]; exact truth_set hi h1 h2 w
/-- The next state, with the least weight found. -/
theorem LimInv.next (H : LimInv h l s M ps) (hi : ps[i]? = some p) {v : Int} (hv : IsLow h l s M ps i v) : p.lo ≤ v ∧ v ≤ p.hi ∧ LimInv h l s M (limPs ps i v v) := by
  have hpo := H.ok p (List.mem_of_getElem? hi)
  obtain ⟨⟨w, hw, hws, hwi⟩, hmin⟩ := hv
  have hb := hw.1 i p hi
  refine ⟨by omega, by omega, ⟨by rw [lim_names hi, H.names], ?_, ?_, fun w2 hw2 => H.inn w2 ((lim_truth hi (by omega) (by omega) w2).1 hw2).1⟩⟩
  · unfold limPs; rw [hi]; exact set_psok H.ok (by omega) (Int.le_refl _) (by omega)
  · exact ⟨fun w2 hw2 => H.most.1 w2 ((lim_truth hi (by omega) (by omega) w2).1 hw2).1, w, (lim_truth hi (by omega) (by omega) w).2 ⟨hw, by omega, by omega⟩, hws⟩
/-- Some weight is the least. -/
theorem LimInv.low (H : LimInv h l s M ps) (hi : ps[i]? = some p) : ∃ v, IsLow h l s M ps i v := by
  have hpo := H.ok p (List.mem_of_getElem? hi)
  have key : ∀ d : Nat, (∃ w, TruthP (withPs h ps) l w ∧ sumS w s = M ∧ w i ≤ p.lo + d) → ∃ v, IsLow h l s M ps i v := by
    intro d
    induction d with
    | zero =>
      rintro ⟨w, hw, hws, hwi⟩
      have hb := (hw.1 i p hi).1
      exact ⟨w i, ⟨w, hw, hws, rfl⟩, fun w2 hw2 _ => by have := (hw2.1 i p hi).1; omega⟩
    | succ d ih =>
      rintro ⟨w, hw, hws, hwi⟩
      by_cases hx : ∃ w, TruthP (withPs h ps) l w ∧ sumS w s = M ∧ w i ≤ p.lo + d
      · exact ih hx
      · refine ⟨w i, ⟨w, hw, hws, rfl⟩, fun w2 hw2 hw2s => ?_⟩
        rcases Int.lt_or_le (w2 i) (w i) with h1 | h1
        · exact absurd ⟨w2, hw2, hw2s, by omega⟩ hx
        · exact h1
  obtain ⟨_, w, hw, hws⟩ := H.most
  have hb := hw.1 i p hi
  exact key (p.hi - p.lo).toNat ⟨w, hw, hws, by omega⟩
theorem lowTo_inv (hp : openPre h l = 0) (hM : IsMost h l s M) : ∀ k, k ≤ h.ps.length → LimInv h l s M (lowTo h l s M h.ps k) := by
  have hk := hulOk (openPre_zero hp).1
  intro k
  induction k with
  | zero => intro _; exact ⟨rfl, hk.ps, hM, fun w hw => hw⟩
  | succ k ih =>
    intro hkn
    have H := ih (by omega)
    have hlen := H.len
    have hpk := List.getElem?_eq_getElem (show k < (lowTo h l s M h.ps k).length by omega)
    obtain ⟨v, hv⟩ := H.low hpk
    have := (H.next hpk hv).2.2
    rw [← lowC_eq hv] at this
    exact this
/-- The program's weights of Heaviest are these. -/
theorem limL_low (hp : openPre h l = 0) (hN : IsTree h l N) (hs : s < 2 ^ h.ps.length) (hM : IsMost h l s M) : limL N s M h.ps h.ps.length = lowL h l s M h.ps.length := by
  have hk := hulOk (openPre_zero hp).1
  have main : ∀ k, k ≤ h.ps.length → limTo N s M h.ps k = lowTo h l s M h.ps k ∧ ∀ j, j < k → limV N s M (limTo N s M h.ps j) j = lowC h l s M (lowTo h l s M h.ps j) j := by
    intro k
    induction k with
    | zero => intro _; exact ⟨rfl, fun j hj => by omega⟩
    | succ k ih =>
      intro hkn
      obtain ⟨i1, i2⟩ := ih (by omega)
      have H := lowTo_inv hp hM k (by omega)
      have hlen := H.len
      obtain ⟨p, hpk⟩ : ∃ p, (lowTo h l s M h.ps k)[k]? = some p := ⟨_, List.getElem?_eq_getElem (show k < (lowTo h l s M h.ps k).length by omega)⟩
      obtain ⟨v, hv⟩ := H.low hpk
      obtain ⟨a1, a2, a3⟩ := H.step hp hN hs hpk
      -- both ends: the program's least number is the least weight
      have e : limV N s M (lowTo h l s M h.ps k) k = v := by
        rcases Int.lt_trichotomy (limV N s M (lowTo h l s M h.ps k) k) v with h1 | h1 | h1
        · obtain ⟨_, w, hw, hws⟩ := a3.most
          have hst : limStep (lowTo h l s M h.ps k) k (limV N s M (lowTo h l s M h.ps k) k) = limPs (lowTo h l s M h.ps k) k (limV N s M (lowTo h l s M h.ps k) k) (limV N s M (lowTo h l s M h.ps k) k) := rfl
          rw [hst] at hw
          obtain ⟨b1, b2, b3⟩ := (lim_truth hpk (by omega) (by omega) w).1 hw
          have := hv.2 w b1 hws
          omega
        · exact h1
        · exact absurd h1 (by have := H.step_le hp hN hs hpk hv.1; omega)
      have ec := lowC_eq hv
      refine ⟨?_, fun j hj => ?_⟩
      · show limStep _ _ _ = limPs _ _ _ _
        rw [i1, e, ec]
        rfl
      · by_cases hjk : j = k
        · subst hjk; rw [i1, e, ec]
        · exact i2 j (by omega)
  unfold limL lowL
  apply List.map_congr_left
  intro i hi
  exact (main _ (Nat.le_refl _)).2 i (by simpa using hi)
end
end Go.Proofs.Ytojgdallodmanaa

namespace Go.Proofs.Ytojgdallodmanaa
open Go.RowKit

theorem Try.info67g : (Try.prog.info? 67).map (fun i => (i.zero, i.size, i.bytes)) = some (some (.agg #[.string ⟨#[]⟩, .int .i64 0, .int .i64 0]), 3, 32) := by kernel_rfl
theorem prt_one : ∀ (ps : List Prt), ∀ u ∈ ps.flatMap encPrt, u.oneCell' = true := fun ps u hu => by
  obtain ⟨p, _, hp⟩ := List.mem_flatMap.1 hu
  simp only [encPrt, List.mem_cons, List.not_mem_nil, or_false] at hp
  rcases hp with rfl | rfl | rfl <;> rfl
theorem prt_len3 (ps : List Prt) : (ps.flatMap encPrt).length = ps.length * 3 := by
  induction ps with
  | nil => rfl
  | cons p ps ih => rw [List.flatMap_cons, List.length_append, ih]; simp [encPrt]; omega
theorem prt_news {W : World} {B bd od : Nat} {xs : List Prt} (h : RdN 3 encPrt W B (some ⟨bd, od, none⟩) xs) : ∀ j u, (xs.flatMap encPrt)[j]? = some u → W.cell? ((⟨bd, od, none⟩ : Addr).add j) = some u := fun j u hu => by
  have hj : j < (xs.flatMap encPrt).length := (List.getElem?_eq_some_iff.1 hu).1
  rw [prt_len3] at hj
  have hq : j / 3 < xs.length := by omega
  have hm : j % 3 < 3 := Nat.mod_lt _ (by decide)
  have hx := List.getElem?_eq_getElem hq
  obtain ⟨b', o', ee, _, hc⟩ := h (j / 3) _ hx
  injection ee with ee
  injection ee with ee1 ee2
  subst ee1 ee2
  rw [addr_add]
  have hfl := flat_atG (k := 3) (encs := encPrt) (fun _ => rfl) xs (j / 3) _ hx (j % 3) hm
  rw [show j / 3 * 3 + j % 3 = j by omega, hu] at hfl
  have := hc (j % 3) u hfl.symm
  rw [show od + j / 3 * 3 + j % 3 = od + j by omega] at this
  exact this
/-- A row of parts of which one's range is stored anew. -/
theorem prts_lim {w : World} {B g : Nat} {ps : List Prt} (hR : RdN 3 encPrt w B (some ⟨g, 0, none⟩) ps) {i : Nat} (X Y : Int) : RdN 3 encPrt ((w.setCell ⟨g, i * 3 + 1, none⟩ (iv X)).setCell ⟨g, i * 3 + 2, none⟩ (iv Y)) B (some ⟨g, 0, none⟩) (limPs ps i X Y) := by
  intro j x hx
  have hjl : j < ps.length := by have := (List.getElem?_eq_some_iff.1 hx).1; rw [limPs_len] at this; exact this
  obtain ⟨y, hy⟩ : ∃ y, ps[j]? = some y := ⟨_, List.getElem?_eq_getElem hjl⟩
  obtain ⟨b, off, e, hb, hc⟩ := hR j y hy
  injection e with e
  injection e with e1 e2
  subst e1 e2
  refine ⟨g, 0, rfl, hb, fun q u hu => ?_⟩
  by_cases hij : i = j
  · subst hij
    unfold limPs at hx
    rw [hy] at hx
    simp only [List.getElem?_set, if_true, if_pos hjl, Option.some.injEq] at hx
    subst hx
    have c0 := hc 0 _ rfl
    have c1 := hc 1 _ rfl
    have c2 := hc 2 _ rfl
    match q, hu with
    | 0, hu =>
      simp [encPrt] at hu
      subst hu
      refine (World.cell?_setCell_other _ _ _ _ (by simp)).trans ((World.cell?_setCell_other _ _ _ _ (by simp)).trans c0)
    | 1, hu =>
      simp [encPrt] at hu
      subst hu
      simp only [Nat.zero_add] at c1 ⊢
      refine (World.cell?_setCell_other _ _ _ _ (by simp)).trans ?_
      exact World.cell?_setCell_same _ _ _ c1
    | 2, hu =>
      simp [encPrt] at hu
      subst hu
      simp only [Nat.zero_add] at c2 ⊢
      have c2' : (w.setCell ⟨g, i * 3 + 1, none⟩ (iv X)).cell? ⟨g, i * 3 + 2, none⟩ = some (iv y.hi) := (World.cell?_setCell_other _ _ _ _ (by simp)).trans c2
      exact World.cell?_setCell_same _ _ _ c2'
  · have hxy : x = y := by
      unfold limPs at hx
      split at hx
      · rw [List.getElem?_set_ne hij, hy] at hx
        injection hx with hx
        exact hx.symm
      · rw [hy] at hx
        injection hx with hx
        exact hx.symm
    subst hxy
    have hq : q < 3 := (List.getElem?_eq_some_iff.1 hu).1
    refine (World.cell?_setCell_other _ _ _ _ (fun e => ?_)).trans ((World.cell?_setCell_other _ _ _ _ (fun e => ?_)).trans (hc q u hu))
    · injection e with _ e2; omega
    · injection e with _ e2; omega
theorem lim_nm {ps : List Prt} (hn : ∀ p ∈ ps, p.name.size ≤ maxLen) (i : Nat) (X Y : Int) : ∀ p ∈ limPs ps i X Y, p.name.size ≤ maxLen := fun q hq => by
  unfold limPs at hq
  split at hq
  · rename_i p hp
    rcases List.mem_or_eq_of_mem_set hq with h | h
    · exact hn q h
    · subst h; exact hn p (List.mem_of_getElem? hp)
  · exact hn q hq
def LimitedPost (h : Hul) (J : Option Addr) (capJ i : Nat) (lo hi : Int) (w : World) (e : Ending) (w' : World) : Prop :=
  Below w.heap.size w w' ∧ ∃ g c, w.heap.size ≤ g ∧ e = .returned (.agg #[.slice (some ⟨g, 0, none⟩) h.ps.length c, .slice J h.js.length capJ, .int .i64 h.slo, .int .i64 h.shi, .int .i64 h.winch]) ∧ HulRd w' w'.heap.size (withPs h (limPs h.ps i lo hi)) (some ⟨g, 0, none⟩) c J capJ

set_option maxRecDepth 100000 in
set_option maxHeartbeats 16000000 in
theorem limited_any (h : Hul) (A J : Option Addr) (B cap capJ i : Nat) (lo hi : Int) (w : World) (hH : HulRd w B h A cap J capJ) (hil : i < h.ps.length) (hn8 : h.ps.length ≤ 8) (hB : B ≤ w.heap.size) :
    Calls Try.prog 77 #[hv h A cap J capJ, .int .i64 i, .agg #[.int .i64 lo, .int .i64 hi]] w (LimitedPost h J capJ i lo hi w) := by
  obtain ⟨i67, hi67, hz670, hz671, hz672⟩ := info_parts Try.info67g
  obtain ⟨W1, hW1, hb1, hzz, p0, p1, p2, p3, p4⟩ := hulBox w h A cap J capJ
  have pf : ∀ o, W1.frozen? ⟨w.heap.size, o, none⟩ = false := fun o => by rw [← hW1]; clear hW1; go_simp
  obtain ⟨W2, hW2⟩ : ∃ W, W1.alloc (.cells #[.int .i64 lo, .int .i64 hi] 25) = W := ⟨_, rfl⟩
  have hb2 : Below W1.heap.size W1 W2 := by rw [← hW2]; exact belowA (belowR _) _
  have q0 : W2.cell? ⟨W1.heap.size, 0, none⟩ = some (.int .i64 lo) := by rw [← hW2]; clear hW2; go_simp
  have q1 : W2.cell? ⟨W1.heap.size, 1, none⟩ = some (.int .i64 hi) := by rw [← hW2]; clear hW2; go_simp
  obtain ⟨W3, hW3⟩ : ∃ W, W2.alloc (.cells #[.slice none 0 0, .slice none 0 0, .int .i64 0, .int .i64 0, .int .i64 0] 27) = W := ⟨_, rfl⟩
  have hb3 : Below W2.heap.size W2 W3 := by rw [← hW3]; exact belowA (belowR _) _
  have s0 : W3.cell? ⟨W2.heap.size, 0, none⟩ = some (.slice none 0 0) := by rw [← hW3]; clear hW3; go_simp
  have s1 : W3.cell? ⟨W2.heap.size, 1, none⟩ = some (.slice none 0 0) := by rw [← hW3]; clear hW3; go_simp
  have s2 : W3.cell? ⟨W2.heap.size, 2, none⟩ = some (.int .i64 0) := by rw [← hW3]; clear hW3; go_simp
  have s3 : W3.cell? ⟨W2.heap.size, 3, none⟩ = some (.int .i64 0) := by rw [← hW3]; clear hW3; go_simp
  have s4 : W3.cell? ⟨W2.heap.size, 4, none⟩ = some (.int .i64 0) := by rw [← hW3]; clear hW3; go_simp
  have sf : ∀ o, W3.frozen? ⟨W2.heap.size, o, none⟩ = false := fun o => by rw [← hW3]; clear hW3; go_simp
  have z1 : w.heap.size < W1.heap.size := lt_of_cell p0
  have z2 : W1.heap.size < W2.heap.size := lt_of_cell q0
  have z3 : W2.heap.size < W3.heap.size := lt_of_cell s0
  have hb13 := belowT hb2 hb3
  have hb0 := belowT hb1 hb13
  have p0 := keepC hb13 p0
  have p1 := keepC hb13 p1
  have p2 := keepC hb13 p2
  have p3 := keepC hb13 p3
  have p4 := keepC hb13 p4
  have pf : ∀ o, W3.frozen? ⟨w.heap.size, o, none⟩ = false := fun o => (World.frozen?_of_block (w := W1) (a := ⟨w.heap.size, o, none⟩) (hb13.block _ z1)).trans (pf o)
  have q0 := keepC hb3 q0
  have q1 := keepC hb3 q1
  have hrp := hH.ps.below hb0 hB
  obtain ⟨x, hx⟩ : ∃ x, h.ps[i]? = some x := ⟨_, List.getElem?_eq_getElem hil⟩
  obtain ⟨bp, op, rfl, _, _, _, _⟩ := prtAt hrp hx
  have hn1 : 1 ≤ h.ps.length := by omega
  have hpl := hH.pl
  have hpm := hH.pm
  unfold maxLen at hpm
  have HJ := Lib.hid (hH.js.below hb0 hB)
  have HNM := Lib.hid hH.nm
  have HJL := Lib.hid hH.jl
  have HJM := Lib.hid hH.jm
  have HX := Lib.hid hx
  have HB0 := Lib.hid hb0
  have hBz := Nat.le_trans hB hb0.size
  have hnews := prt_news (hrp.below (belowA (belowR W3) (.cells #[] 67)) hBz)
  have hlit : (W3.alloc (.cells #[] 67)).ownsRow W3.heap.size 67 3 (.slice (some ⟨W3.heap.size, 0, none⟩) 0 0) 0 [] := World.ownsRow_lit W3 #[] 0 (Nat.le_refl _) (Nat.zero_le _) rfl
  have HNEWS := Lib.hid hnews
  have HLIT := Lib.hid hlit
  have HPF := Lib.hid pf
  have HSF := Lib.hid sf
  have z13 : w.heap.size < W3.heap.size := by omega
  have z14 : W1.heap.size < W3.heap.size := by omega
  have hi0 : (0 : Int) ≤ (i : Int) := by omega
  have hiz : (i : Int) < (h.ps.length : Int) := by omega
  clear hnews hlit hH hrp hx hb0 hb1 hb2 hb3 hb13 hzz pf sf
  go_enter Try.func77, Try.ntmps77
  go_wp2_with (at_builtin; refine wpList_append_own _ rfl _ _ 22 rfl W3.heap.size 67 i67 (.agg #[.string ⟨#[]⟩, .int .i64 0, .int .i64 0]) 3 32 Try.underlying22 hi67 hz670 hz671 hz672 rfl (by decide) _ _ _ rfl HLIT.out ⟨bp, op, none⟩ h.ps.length cap (h.ps.flatMap encPrt) rfl (prt_len3 _) ?c1 ?c2 ?c3 ?c4 (by simp) ?_)
  case c1 => first | exact HNEWS.out | (intro j u hu; have := HNEWS.out j u hu; rw [addr_add] at this; exact this)
  case c2 => first | exact prt_one _ | (intro u p hp hu; exact prt_one h.ps u (List.mem_flatMap.2 ⟨p, hp, hu⟩))
  case c3 => unfold maxLen; omega
  case c4 => omega
  intro v' w6 hown6 hgrow _
  have hB6 : Below W3.heap.size W3 w6 := grownB HLIT.out hgrow (Nat.le_refl _) (belowA (belowR _) _)
  have hown6' : w6.ownsRow W3.heap.size 67 3 v' h.ps.length (h.ps.flatMap encPrt) := by simpa using hown6
  obtain ⟨g6, cp6, rfl, hgb6, hgl6, hgc6⟩ := own_form hown6' hn1
  have hm6 : cp6 ≤ maxLen := by
    obtain ⟨_, _, hv6, _, _, _, hm⟩ := own_rdN (encs := encPrt) (xs := h.ps) (fun _ => rfl) hown6'
    injection hv6 with _ _ hv6
    rw [hv6]; exact hm
  have hrd6 : RdN 3 encPrt w6 w6.heap.size (some ⟨g6, 0, none⟩) h.ps := by
    obtain ⟨A9, _, hv6, hR, _⟩ := own_rdN (encs := encPrt) (xs := h.ps) (fun _ => rfl) hown6'
    injection hv6 with hv6
    rw [hv6]; exact hR
  have p0 := keepC hB6 p0
  have p1 := keepC hB6 p1
  have p2 := keepC hB6 p2
  have p3 := keepC hB6 p3
  have p4 := keepC hB6 p4
  have q0 := keepC hB6 q0
  have q1 := keepC hB6 q1
  have s0 := keepC hB6 s0
  have s1 := keepC hB6 s1
  have s2 := keepC hB6 s2
  have s3 := keepC hB6 s3
  have s4 := keepC hB6 s4
  have pf0 : w6.frozen? ⟨w.heap.size, 0, none⟩ = false := (World.frozen?_of_block (w := W3) (a := ⟨w.heap.size, 0, none⟩) (hB6.block _ z13)).trans (HPF.out 0)
  have HSF6 : Hid (∀ o, w6.frozen? ⟨W2.heap.size, o, none⟩ = false) := Lib.hid fun o => (World.frozen?_of_block (w := W3) (a := ⟨W2.heap.size, o, none⟩) (hB6.block _ z3)).trans (HSF.out o)
  have HFZ6 := Lib.hid (fun o => hown6'.frozenAt o)
  have HRD6 := Lib.hid hrd6
  have HB6 := Lib.hid (belowT HB0.out hB6)
  have HJ6 := Lib.hid (HJ.out.below hB6 hBz)
  have hz6 := hB6.size
  have HM6 := Lib.hid hm6
  clear hgrow hown6 hown6' hB6 hrd6 hm6 HNEWS HLIT HPF HSF hW1 hW2 hW3
  go_upto_region 2 with fail
  have n1 : g6 ≠ w.heap.size := by omega
  have n2 : g6 ≠ W1.heap.size := by omega
  have n3 : g6 ≠ W2.heap.size := by omega
  have n4 : W1.heap.size ≠ w.heap.size := by omega
  have n5 : W2.heap.size ≠ w.heap.size := by omega
  obtain ⟨W7, hW7⟩ : ∃ W7, w6.setCell ⟨w.heap.size, 0, none⟩ (.slice (some ⟨g6, 0, none⟩) h.ps.length cp6) = W7 := ⟨_, rfl⟩
  have t0 : W7.cell? ⟨w.heap.size, 0, none⟩ = some (.slice (some ⟨g6, 0, none⟩) h.ps.length cp6) := by rw [← hW7]; exact World.cell?_setCell_same _ _ _ p0
  have t1 : W7.cell? ⟨w.heap.size, 1, none⟩ = some (.slice J h.js.length capJ) := by rw [← hW7]; exact (World.cell?_setCell_other _ _ _ _ (by simp)).trans p1
  have t2 : W7.cell? ⟨w.heap.size, 2, none⟩ = some (.int .i64 h.slo) := by rw [← hW7]; exact (World.cell?_setCell_other _ _ _ _ (by simp)).trans p2
  have t3 : W7.cell? ⟨w.heap.size, 3, none⟩ = some (.int .i64 h.shi) := by rw [← hW7]; exact (World.cell?_setCell_other _ _ _ _ (by simp)).trans p3
  have t4 : W7.cell? ⟨w.heap.size, 4, none⟩ = some (.int .i64 h.winch) := by rw [← hW7]; exact (World.cell?_setCell_other _ _ _ _ (by simp)).trans p4
  have u0 : W7.cell? ⟨W1.heap.size, 0, none⟩ = some (.int .i64 lo) := by rw [← hW7]; exact keepSet q0 n4
  have u1 : W7.cell? ⟨W1.heap.size, 1, none⟩ = some (.int .i64 hi) := by rw [← hW7]; exact keepSet q1 n4
  have v0 : W7.cell? ⟨W2.heap.size, 0, none⟩ = some (.slice none 0 0) := by rw [← hW7]; exact keepSet s0 n5
  have v1 : W7.cell? ⟨W2.heap.size, 1, none⟩ = some (.slice none 0 0) := by rw [← hW7]; exact keepSet s1 n5
  have v2 : W7.cell? ⟨W2.heap.size, 2, none⟩ = some (.int .i64 0) := by rw [← hW7]; exact keepSet s2 n5
  have v3 : W7.cell? ⟨W2.heap.size, 3, none⟩ = some (.int .i64 0) := by rw [← hW7]; exact keepSet s3 n5
  have v4 : W7.cell? ⟨W2.heap.size, 4, none⟩ = some (.int .i64 0) := by rw [← hW7]; exact keepSet s4 n5
  have HSF7 : Hid (∀ o, W7.frozen? ⟨W2.heap.size, o, none⟩ = false) := Lib.hid fun o => by rw [← hW7, World.frozen?_setCell]; exact HSF6.out o
  have hrd7 : RdN 3 encPrt W7 w6.heap.size (some ⟨g6, 0, none⟩) h.ps := fun j y hy => by
    obtain ⟨b9, o9, e9, hb9, hc9⟩ := HRD6.out j y hy
    injection e9 with e9
    injection e9 with e91 e92
    subst e91 e92
    exact ⟨_, _, rfl, hb9, fun q u hu => by rw [← hW7]; exact (World.cell?_setCell_other _ _ _ _ (fun e => by injection e with e _; exact n1 e.symm)).trans (hc9 q u hu)⟩
  have HJ7 : Hid (RdN 2 encSp W7 B J h.js) := Lib.hid fun j y hy => by
    obtain ⟨b9, o9, e9, hb9, hc9⟩ := HJ6.out j y hy
    exact ⟨b9, o9, e9, hb9, fun q u hu => by rw [← hW7]; exact keepSet (hc9 q u hu) (by omega)⟩
  have HFZ7 : Hid (∀ o, W7.frozen? ⟨g6, o, none⟩ = false) := Lib.hid fun o => by rw [← hW7, World.frozen?_setCell]; exact HFZ6.out o
  have HB7 : Hid (Below w.heap.size w W7) := Lib.hid (by rw [← hW7]; exact belowS HB6.out (Nat.le_refl _) _)
  have hz7 : W7.heap.size = w6.heap.size := by rw [← hW7]; simp
  rw [hW7]
  obtain ⟨b9, o9, e9, _, k0, k1, k2⟩ := prtAt hrd7 HX.out
  injection e9 with e9
  injection e9 with e91 e92
  subst e91 e92
  have f1 := HFZ7.out (0 + i * 3 + 1)
  have f2 := HFZ7.out (0 + i * 3 + 2)
  rw [Nat.zero_add] at k1 k2 f1 f2
  have HRD7 := Lib.hid (hrd7.more (Nat.le_of_eq hz7.symm))
  have hgz7 : W7.heap.size = w6.heap.size := hz7
  have HZ7 := Lib.hid hgz7
  clear hW7 hrd7 p0 p1 p2 p3 p4 q0 q1 s0 s1 s2 s3 s4 pf0 HRD6 HFZ6 HB6 HJ6 HSF6 hz7 hgz7 k0
  go_upto_region 3 with fail
  obtain ⟨W9, hW9⟩ : ∃ W9, ((W7.setCell ⟨g6, i * 3 + 1, none⟩ (.int .i64 lo)).setCell ⟨g6, i * 3 + 1 + 1, none⟩ (.int .i64 hi)) = W9 := ⟨_, rfl⟩
  have hrd9 : RdN 3 encPrt W9 W7.heap.size (some ⟨g6, 0, none⟩) (limPs h.ps i lo hi) := by rw [← hW9]; exact prts_lim HRD7.out lo hi
  have t0 : W9.cell? ⟨w.heap.size, 0, none⟩ = some (.slice (some ⟨g6, 0, none⟩) h.ps.length cp6) := by rw [← hW9]; exact keepSet (keepSet t0 (Ne.symm n1)) (Ne.symm n1)
  have t1 : W9.cell? ⟨w.heap.size, 1, none⟩ = some (.slice J h.js.length capJ) := by rw [← hW9]; exact keepSet (keepSet t1 (Ne.symm n1)) (Ne.symm n1)
  have t2 : W9.cell? ⟨w.heap.size, 2, none⟩ = some (.int .i64 h.slo) := by rw [← hW9]; exact keepSet (keepSet t2 (Ne.symm n1)) (Ne.symm n1)
  have t3 : W9.cell? ⟨w.heap.size, 3, none⟩ = some (.int .i64 h.shi) := by rw [← hW9]; exact keepSet (keepSet t3 (Ne.symm n1)) (Ne.symm n1)
  have t4 : W9.cell? ⟨w.heap.size, 4, none⟩ = some (.int .i64 h.winch) := by rw [← hW9]; exact keepSet (keepSet t4 (Ne.symm n1)) (Ne.symm n1)
  have v0 : W9.cell? ⟨W2.heap.size, 0, none⟩ = some (.slice none 0 0) := by rw [← hW9]; exact keepSet (keepSet v0 (Ne.symm n3)) (Ne.symm n3)
  have v1 : W9.cell? ⟨W2.heap.size, 1, none⟩ = some (.slice none 0 0) := by rw [← hW9]; exact keepSet (keepSet v1 (Ne.symm n3)) (Ne.symm n3)
  have v2 : W9.cell? ⟨W2.heap.size, 2, none⟩ = some (.int .i64 0) := by rw [← hW9]; exact keepSet (keepSet v2 (Ne.symm n3)) (Ne.symm n3)
  have v3 : W9.cell? ⟨W2.heap.size, 3, none⟩ = some (.int .i64 0) := by rw [← hW9]; exact keepSet (keepSet v3 (Ne.symm n3)) (Ne.symm n3)
  have v4 : W9.cell? ⟨W2.heap.size, 4, none⟩ = some (.int .i64 0) := by rw [← hW9]; exact keepSet (keepSet v4 (Ne.symm n3)) (Ne.symm n3)
  have HSF9 : Hid (∀ o, W9.frozen? ⟨W2.heap.size, o, none⟩ = false) := Lib.hid fun o => by rw [← hW9, World.frozen?_setCell, World.frozen?_setCell]; exact HSF7.out o
  have HJ9 : Hid (RdN 2 encSp W9 B J h.js) := Lib.hid fun j y hy => by
    obtain ⟨b9, o9, e9, hb9, hc9⟩ := HJ7.out j y hy
    exact ⟨b9, o9, e9, hb9, fun q u hu => by rw [← hW9]; exact keepSet (keepSet (hc9 q u hu) (by omega)) (by omega)⟩
  have hgw : w.heap.size ≤ g6 := by omega
  have HB9 : Hid (Below w.heap.size w W9) := Lib.hid (by rw [← hW9]; exact belowS (belowS HB7.out hgw _) hgw _)
  have hz9 : W9.heap.size = W7.heap.size := by rw [← hW9]; simp
  have HRD9 := Lib.hid hrd9
  rw [hW9]
  clear hW9 hrd9 k1 k2 f1 f2 HRD7 HFZ7 HB7 HJ7 HSF7 u0 u1
  have e0 := HSF9.out 0
  have e1 := HSF9.out 1
  have e2 := HSF9.out 2
  have e3 := HSF9.out 3
  have e4 := HSF9.out 4
  go_wp2_with fail
  obtain ⟨wx, hwx⟩ : ∃ wx, (((((W9.setCell ⟨W2.heap.size, 0, none⟩ (.slice (some ⟨g6, 0, none⟩) h.ps.length cp6)).setCell ⟨W2.heap.size, 1, none⟩ (.slice J h.js.length capJ)).setCell ⟨W2.heap.size, 2, none⟩ (.int .i64 h.slo)).setCell ⟨W2.heap.size, 3, none⟩ (.int .i64 h.shi)).setCell ⟨W2.heap.size, 4, none⟩ (.int .i64 h.winch)) = wx := ⟨_, rfl⟩
  have y0 : wx.cell? ⟨W2.heap.size, 0, none⟩ = some (.slice (some ⟨g6, 0, none⟩) h.ps.length cp6) := by rw [← hwx]; clear hwx; go_simp
  have y1 : wx.cell? ⟨W2.heap.size, 1, none⟩ = some (.slice J h.js.length capJ) := by rw [← hwx]; clear hwx; go_simp
  have y2 : wx.cell? ⟨W2.heap.size, 2, none⟩ = some (.int .i64 h.slo) := by rw [← hwx]; clear hwx; go_simp
  have y3 : wx.cell? ⟨W2.heap.size, 3, none⟩ = some (.int .i64 h.shi) := by rw [← hwx]; clear hwx; go_simp
  have y4 : wx.cell? ⟨W2.heap.size, 4, none⟩ = some (.int .i64 h.winch) := by rw [← hwx]; clear hwx; go_simp
  have h2w : w.heap.size ≤ W2.heap.size := by omega
  have hbx : Below w.heap.size w wx := by rw [← hwx]; exact belowS (belowS (belowS (belowS (belowS HB9.out h2w _) h2w _) h2w _) h2w _) h2w _
  have hzx : wx.heap.size = W9.heap.size := by rw [← hwx]; simp
  have hZ7 := HZ7.out
  have hrx : RdN 3 encPrt wx wx.heap.size (some ⟨g6, 0, none⟩) (limPs h.ps i lo hi) := fun j y hy => by
    obtain ⟨b9, o9, e9, hb9, hc9⟩ := HRD9.out j y hy
    injection e9 with e9
    injection e9 with e91 e92
    subst e91 e92
    exact ⟨_, _, rfl, by omega, fun q u hu => by rw [← hwx]; exact keepSet (keepSet (keepSet (keepSet (keepSet (hc9 q u hu) n3) n3) n3) n3) n3⟩
  have hjx : RdN 2 encSp wx wx.heap.size J h.js := fun j y hy => by
    obtain ⟨b9, o9, e9, hb9, hc9⟩ := HJ9.out j y hy
    have hbn : b9 ≠ W2.heap.size := by omega
    exact ⟨b9, o9, e9, by omega, fun q u hu => by rw [← hwx]; exact keepSet (keepSet (keepSet (keepSet (keepSet (hc9 q u hu) hbn) hbn) hbn) hbn) hbn⟩
  rw [hwx]
  refine bodyPost_ret (v := .agg #[.slice (some ⟨g6, 0, none⟩) h.ps.length cp6, .slice J h.js.length capJ, .int .i64 h.slo, .int .i64 h.shi, .int .i64 h.winch]) (by simp [results, Try.results77, go_sem, y0, y1, y2, y3, y4]) rfl ?_
  exact ⟨hbx, g6, cp6, hgw, rfl, ⟨hrx, hjx, by simp only [limPs_len]; exact hgc6, HM6.out, HJL.out, HJM.out, lim_nm HNM.out i lo hi⟩⟩
end Go.Proofs.Ytojgdallodmanaa
