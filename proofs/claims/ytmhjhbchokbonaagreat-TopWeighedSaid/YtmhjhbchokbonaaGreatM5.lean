/- What weighings tell of a hull: the truths that agree, and what the tree of weighings says of them. No program is named here. block.open. What a set of parts weighs at most and at least, in all truths. block.enter, block.Pull. block.Pull. block.Weights. Blocks that are known whole, rounds of a loop over a function. -/
import Derived.Carry
import Derived.Deep.RegionHeld3
import Derived.Deep.AppendLies
import Derived.RangeFuncNested
import Derived.RangeFuncBound
import Derived.RangeFuncCalls
import Derived.RangeFuncLeaves
import Derived.RangeFuncWrites
import Derived.Shelf.Abstract
import Derived.Shelf.RegionOpen
import Derived.WalkKit
import Derived.OwnWalkIn
import Derived.TacticsInMore
import Derived.LoopNIn
import Derived.LoopIn
import Derived.WalkSmall
import Derived.Test.YtmhjhbchokbonaaGreatM0
import Derived.Test.YtmhjhbchokbonaaGreatM2
import Derived.Test.YtmhjhbchokbonaaGreatM4
set_option maxRecDepth 1000000
set_option maxHeartbeats 16000000
namespace Go.Proofs.YtmhjhbchokbonaaGreat
def TruthP (h : Hul) (l : List Wgh) (w : Nat → Int) : Prop := (∀ (i : Nat) (p : Prt), h.ps[i]? = some p → p.lo ≤ w i ∧ w i ≤ p.hi) ∧ ∀ x ∈ l, x.lo ≤ sumS w x.set.toNat ∧ sumS w x.set.toNat ≤ x.hi
def LamW (x y : Wgh) : Prop := (∀ p, p < 8 → ¬ (x.set.toNat.testBit p = true ∧ y.set.toNat.testBit p = true)) ∨ subP x.set.toNat y.set.toNat ∨ subP y.set.toNat x.set.toNat
theorem LamW.symm {x y : Wgh} (h : LamW x y) : LamW y x := by
 rcases h with h | h | h
 ·exact .inl fun p hp hc => h p hp ⟨hc.2, hc.1⟩
 ·exact .inr (.inr h)
 ·exact .inr (.inl h)
theorem crossN_no {a b : Nat} (h : crossN a b = false) : (∀ p, p < 8 → ¬ (a.testBit p = true ∧ b.testBit p = true)) ∨ subP a b ∨ subP b a := by
 unfold crossN at h
 simp only [Bool.and_eq_false_iff, bne_eq_false_iff_eq] at h
 rcases h with (h | h) | h
 ·refine .inl fun p _ hc => ?_
  have := congrArg (fun x => x.testBit p) h
  simp [hc.1, hc.2] at this
 ·refine .inr (.inl fun p _ hb => ?_)
  have := congrArg (fun x => x.testBit p) h
  simp only [Nat.testBit_and, hb, Bool.true_and] at this
  exact this
 ·refine .inr (.inr fun p _ hb => ?_)
  have := congrArg (fun x => x.testBit p) h
  simp only [Nat.testBit_and, hb, Bool.and_true] at this
  exact this
section
variable {h : Hul} {l : List Wgh}
theorem lam_list (hp : openPre h l = 0) : l.Pairwise LamW := by
 obtain ⟨_, _, h3⟩ := openPre_zero hp
 rw [List.pairwise_iff_getElem]
 intro i j hi hj hij
 have hz := h3 j hj
 unfold weighedE at hz
 rw [List.getElem?_eq_getElem hj] at hz
 simp only at hz
 split at hz
 ·split at hz
  ·omega
  ·rename_i hc
   have hc : crossB (l.take j) l[j].set.toNat = false := by simpa using hc
   unfold crossB at hc
   rw [List.any_eq_false] at hc
   have hm : l[i] ∈ l.take j := by
    rw [List.mem_take_iff_getElem]
    exact ⟨i, by omega, rfl⟩
   have := hc _ hm
   exact LamW.symm (crossN_no (by simpa using this))
 ·exact absurd hz (by assumption)
theorem all_set (n : Nat) : ((2 ^ n - 1 : Nat) : Int).toNat = 2 ^ n - 1 := by omega
theorem sets_all (hp : openPre h l = 0) : ∀ x ∈ allW l h.ps.length, x.set.toNat < 2 ^ h.ps.length ∧ (x.set.toNat : Int) = x.set := by
 intro x hx
 rcases List.mem_append.1 hx with hx | hx
 ·obtain ⟨s, _, _, a3, a4, _⟩ := wghs_ok hp x hx
  rw [a4]
  exact ⟨by omega, by omega⟩
 ·rw [List.mem_singleton.1 hx]
  have : 1 ≤ 2 ^ h.ps.length := Nat.one_le_two_pow
  simp only
  omega
theorem lam_all (hp : openPre h l = 0) : (allW l h.ps.length).Pairwise LamW := by
 unfold allW
 rw [List.pairwise_append]
 refine ⟨lam_list hp, by simp, fun x hx y hy => ?_⟩
 rw [List.mem_singleton.1 hy]
 refine .inr (.inl fun p _ hb => ?_)
 simp only [all_set, Nat.testBit_two_pow_sub_one]
 have := (sets_all hp x (List.mem_append_left _ hx)).1
 rcases Nat.lt_or_ge p h.ps.length with h1 | h1
 ·simpa using h1
 ·rw [Nat.testBit_lt_two_pow (Nat.lt_of_lt_of_le this (Nat.pow_le_pow_right (by decide) h1))] at hb
  cases hb
theorem sets_of (hp : openPre h l = 0) {X : List Wgh} (hX : (allW l h.ps.length).Perm X) (hs : X.Pairwise (fun a b => onesN a.set.toNat ≤ onesN b.set.toNat)) : Sets h.ps.length (X.map ndOf) := by
 have hk := hulOk (openPre_zero hp).1
 have hl : (X.map ndOf).length = l.length + 1 := by rw [List.length_map, ← hX.length_eq, allW_len]
 have hXl : X.length = l.length + 1 := by rw [← hX.length_eq, allW_len]
 have hat : ∀ i (hi : i < X.length), setAt (X.map ndOf) i = X[i].set.toNat := fun i hi => by
  have : (X.map ndOf)[i]? = some (ndOf X[i]) := by rw [List.getElem?_map, List.getElem?_eq_getElem hi]; rfl
  rw [setAt_some this]; rfl
 have hlam : X.Pairwise LamW := (hX.pairwise_iff (fun h => LamW.symm h)).1 (lam_all hp)
 have hlt : ∀ x ∈ X, x.set.toNat < 2 ^ h.ps.length := fun x hx => (sets_all hp x (hX.mem_iff.2 hx)).1
 refine ⟨hk.n8, by omega, fun nd hnd => ?_, fun i j hij hj => ?_, fun i j hij hj => ?_, ?_⟩
 ·obtain ⟨x, hx, rfl⟩ := List.mem_map.1 hnd
  exact ⟨rfl, rfl, hlt x hx⟩
 ·rw [List.length_map] at hj
  rw [hat i (by omega), hat j hj]
  exact List.pairwise_iff_getElem.1 hlam i j (by omega) hj hij
 ·rw [List.length_map] at hj
  rw [hat i (by omega), hat j hj]
  exact List.pairwise_iff_getElem.1 hs i j (by omega) hj hij
 ·rw [List.length_map, hat _ (by omega)]
  have hm : (⟨((2 ^ h.ps.length - 1 : Nat) : Int), 0, (h.ps.length : Int) * 100000⟩ : Wgh) ∈ X := hX.mem_iff.1 (by simp [allW])
  obtain ⟨j, hj⟩ := List.getElem?_of_mem hm
  obtain ⟨hjl, hje⟩ := List.getElem?_eq_some_iff.1 hj
  have hlast := hlt _ (List.getElem_mem (show X.length - 1 < X.length by omega))
  have hsub : subP X[X.length - 1].set.toNat (2 ^ h.ps.length - 1) := by
   intro p _ hb
   rw [Nat.testBit_two_pow_sub_one]
   rcases Nat.lt_or_ge p h.ps.length with h1 | h1
   ·simpa using h1
   ·rw [Nat.testBit_lt_two_pow (Nat.lt_of_lt_of_le hlast (Nat.pow_le_pow_right (by decide) h1))] at hb
    cases hb
  have hsub2 : subP (2 ^ h.ps.length - 1) X[X.length - 1].set.toNat := by
   rcases Nat.lt_or_ge j (X.length - 1) with hlt2 | hge
   ·have := List.pairwise_iff_getElem.1 hs j (X.length - 1) hjl (by omega) hlt2
    rw [hje] at this
    simp only [all_set] at this
    exact ones_eq hsub this
   ·obtain rfl : j = X.length - 1 := by omega
    rw [hje]
    simp only [all_set]
    exact fun _ _ h => h
  apply Nat.eq_of_testBit_eq
  intro p
  rcases Nat.lt_or_ge p 8 with hp8 | hp8
  ·rw [Bool.eq_iff_iff]
   exact ⟨hsub p hp8, hsub2 p hp8⟩
  ·rw [Nat.testBit_two_pow_sub_one, Nat.testBit_lt_two_pow (Nat.lt_of_lt_of_le hlast (Nat.pow_le_pow_right (by decide) (by have := hk.n8; omega)))]
   simp
   have := hk.n8
   omega
theorem sumTo_bd {w : Nat → Int} {P : Nat → Bool} {n : Nat} : ∀ k, (∀ i, i < k → P i = true → i < n ∧ 0 ≤ w i ∧ w i ≤ 100000) → 0 ≤ sumTo w P k ∧ sumTo w P k ≤ 100000 * (min k n : Nat) := by
 intro k
 induction k with
 | zero => intro _; simp [sumTo]
 | succ k ih =>
  intro hw
  have := ih (fun i hi => hw i (by omega))
  have h2 := hw k (by omega)
  simp only [sumTo]
  cases hk : P k with
  | true =>
   have := h2 hk
   simp only [if_true]
   omega
  | false =>
   simp only [Bool.false_eq_true, if_false]
   omega
theorem truth_bd (hk : HulOk h) {w : Nat → Int} (hw : TruthP h l w) {s : Nat} (hs : s < 2 ^ h.ps.length) : 0 ≤ sumS w s ∧ sumS w s ≤ 100000 * h.ps.length := by
 have := sumTo_bd (w := w) (P := fun i => s.testBit i) (n := h.ps.length) 8 (fun i _ hb => by
  have hil : i < h.ps.length := by
   rcases Nat.lt_or_ge i h.ps.length with h1 | h1
   ·exact h1
   ·rw [Nat.testBit_lt_two_pow (Nat.lt_of_lt_of_le hs (Nat.pow_le_pow_right (by decide) h1))] at hb
    cases hb
  have hg := List.getElem?_eq_getElem hil
  have a := hw.1 i _ hg
  have b := hk.ps _ (List.mem_of_getElem? hg)
  omega)
 unfold sumS sumP
 have := hk.n8
 omega
theorem wgh_truth (hp : openPre h l = 0) {N : List Nd} (hN : IsTree h l N) (set : Nat) : Good2 (fun p => set.testBit p) (fun p => decide (p < h.ps.length)) (TruthP h l) (wgh h.ps N set) := by
 have hk := hulOk (openPre_zero hp).1
 obtain ⟨X, hX, hs, rfl⟩ := hN
 have hS := sets_of hp hX hs
 have hl : (X.map ndOf).length = l.length + 1 := by rw [List.length_map, ← hX.length_eq, allW_len]
 rw [← hl]
 have hL := hS.lamTree
 have hlen : (treeTo (X.map ndOf) (X.map ndOf).length).length = (X.map ndOf).length := treeTo_len _ _
 have hrt := List.getElem?_eq_getElem (show (X.map ndOf).length - 1 < (treeTo (X.map ndOf) (X.map ndOf).length).length by rw [hlen]; omega)
 obtain ⟨rt, hrtd⟩ : ∃ rt, (treeTo (X.map ndOf) (X.map ndOf).length)[(X.map ndOf).length - 1]? = some rt := ⟨_, hrt⟩
 have hrs : rt.set = 2 ^ h.ps.length - 1 := by
  rw [← setAt_some hrtd, setAt_tree hS.z0, hS.last]
 have hg := upF_good hk.ps hk.n8 hL set (X.map ndOf).length ((X.map ndOf).length - 1) rt (by omega) hrtd
 unfold wgh
 rw [hlen]
 refine hg.congr (fun p _ => by rw [hrs, Nat.testBit_two_pow_sub_one]) (fun w => ?_)
 have hsame := (shaped_tree hS.z0 (X.map ndOf).length).same
 constructor
 ·intro hf
  refine ⟨fun i p hi => ?_, fun x hx => ?_⟩
  ·have hil := (List.getElem?_eq_some_iff.1 hi).1
   have hn8 := hk.n8
   obtain ⟨j, nj, a, b, c⟩ := hL.owner (p := i) (by omega) _ rt hrtd (by rw [hrs, Nat.testBit_two_pow_sub_one]; simpa using hil)
   exact (hf j nj a b).1 i p hil hi c
  ·have hxX : x ∈ X := hX.mem_iff.1 (List.mem_append_left _ hx)
   obtain ⟨j, hj⟩ := List.getElem?_of_mem hxX
   have hjl := (List.getElem?_eq_some_iff.1 hj).1
   have hXl : X.length = (X.map ndOf).length := by simp
   have hnj := List.getElem?_eq_getElem (show j < (treeTo (X.map ndOf) (X.map ndOf).length).length by rw [hlen]; omega)
   obtain ⟨nj, hnjd⟩ : ∃ nj, (treeTo (X.map ndOf) (X.map ndOf).length)[j]? = some nj := ⟨_, hnj⟩
   obtain ⟨nd0, e1, e2, e3, e4, _⟩ := hsame j nj hnjd
   rw [List.getElem?_map, hj] at e1
   injection e1 with e1
   have hd := hS.desc ((X.map ndOf).length - 1 - j) j (by omega)
   have := (hf j nj hd hnjd).2
   rw [e2, e3, e4, ← e1] at this
   exact this
 ·intro ht j nj _ hj
  obtain ⟨nd0, e1, e2, e3, e4, _⟩ := hsame j nj hj
  refine ⟨fun i p hi hip _ => ht.1 i p hip, ?_⟩
  rw [List.getElem?_map] at e1
  cases hx : X[j]? with
  | none => rw [hx] at e1; cases e1
  | some x =>
   rw [hx] at e1
   injection e1 with e1
   have hxa : x ∈ allW l h.ps.length := hX.mem_iff.2 (List.mem_of_getElem? hx)
   rw [e2, e3, e4, ← e1]
   rcases List.mem_append.1 hxa with hxl | hxl
   ·exact ht.2 x hxl
   ·rw [List.mem_singleton.1 hxl]
    have h1 : 1 ≤ 2 ^ h.ps.length := Nat.one_le_two_pow
    have := truth_bd hk ht (s := 2 ^ h.ps.length - 1) (by omega)
    simp only [ndOf, all_set]
    omega
end
end Go.Proofs.YtmhjhbchokbonaaGreat
namespace Go.Proofs.YtmhjhbchokbonaaGreat
open Go.RowKit Go.Maps
def OpenPost (h : Hul) (A : Option Addr) (cap : Nat) (J : Option Addr) (capJ : Nat) (l : List Wgh) (w : World) (e : Ending) (w' : World) : Prop :=
 BW w w' ∧ ((openPre h l ≠ 0 ∧ e = .returned (.tuple #[.pointer none, iv (openPre h l)])) ∨ (openPre h l = 0 ∧ ∃ N, IsTree h l N ∧ (((wgh h.ps N 0).2 = false ∧ e = .returned (.tuple #[.pointer none, iv 9])) ∨ ((wgh h.ps N 0).2 = true ∧ ∃ g bs br km BD, e = .returned (.tuple #[ptr g, iv 0]) ∧ w.heap.size ≤ g ∧ w.heap.size ≤ km ∧ DeckSt w' BD g h A cap J capJ N bs br km ∧ KnownAt w' km (mostV h N) ∧ ∀ o, w'.frozen? ⟨g, o, none⟩ = false))))
theorem openPre_bad {h : Hul} {l : List Wgh} (hc : (checkE h).2.2 ≠ 0) : openPre h l = (checkE h).2.2 := by unfold openPre; rw [if_neg hc]
theorem openPre_long {h : Hul} {l : List Wgh} (hc : (checkE h).2.2 = 0) (hl : ¬ l.length ≤ 6) : openPre h l = 3 := by unfold openPre; rw [if_pos hc, if_neg hl]
theorem openPre_at {h : Hul} {l : List Wgh} (hc : (checkE h).2.2 = 0) (hl : l.length ≤ 6) {i : Nat} (hi : i < l.length) (hf : firstBad (weighedE h.ps.length h.js l) i = none) (hb : weighedE h.ps.length h.js l i ≠ 0) : openPre h l = weighedE h.ps.length h.js l i := by
 unfold openPre weighedsE
 rw [if_pos hc, if_pos hl, firstBad_at hf hb hi]
theorem openPre_ok {h : Hul} {l : List Wgh} (hc : (checkE h).2.2 = 0) (hl : l.length ≤ 6) (hf : firstBad (weighedE h.ps.length h.js l) l.length = none) : openPre h l = 0 := by
 unfold openPre weighedsE
 rw [if_pos hc, if_pos hl, hf]
theorem crossB_snoc (l : List Wgh) (s j : Nat) (y : Wgh) (hy : l[j]? = some y) : crossB (l.take (j + 1)) s = (crossB (l.take j) s || crossN s y.set.toNat) := by
 obtain ⟨hk, rfl⟩ := List.getElem?_eq_some_iff.1 hy
 unfold crossB
 rw [List.take_succ_eq_append_getElem hk, List.any_append]
 simp
theorem crossB_mono {l : List Wgh} {s j i : Nat} (h : crossB (l.take j) s = true) (hj : j ≤ i) : crossB (l.take i) s = true := by
 unfold crossB at *
 rw [List.any_eq_true] at *
 obtain ⟨y, hy, hc⟩ := h
 refine ⟨y, ?_, hc⟩
 have : (l.take i).take j = l.take j := by rw [List.take_take, Nat.min_eq_left hj]
 rw [← this] at hy
 exact List.mem_of_mem_take hy
theorem open_any (h : Hul) (A J : Option Addr) (B cap capJ : Nat) (AL : Option Addr) (l : List Wgh) (capL : Nat) (w : World) (hH : HulRd w B h A cap J capJ) (hL : RdN 3 encWgh w B AL l) (hlc : l.length ≤ capL) (hB : B ≤ w.heap.size) :
  Calls Tryz.prog 52 #[hv h A cap J capJ, .slice AL l.length capL] w (OpenPost h A cap J capJ l w) := by
 obtain ⟨W1, hW1⟩ := ex (w.alloc (.cells #[.slice A h.ps.length cap, .slice J h.js.length capJ, iv h.slo, iv h.shi, iv h.winch] 40))
 have hb0 : BW w W1 := by rw [← hW1]; exact belowA (belowR _) _
 have hck := check_any h A J B cap capJ W1 (hH.below hb0 hB) (Nat.le_trans hB hb0.size)
 have p0 : W1.cell? ⟨w.heap.size, 0, none⟩ = some (.slice A h.ps.length cap) := by rw [← hW1]; clear hW1; go_simp
 have p1 : W1.cell? ⟨w.heap.size, 1, none⟩ = some (.slice J h.js.length capJ) := by rw [← hW1]; clear hW1; go_simp
 have p2 : W1.cell? ⟨w.heap.size, 2, none⟩ = some (iv h.slo) := by rw [← hW1]; clear hW1; go_simp
 have p3 : W1.cell? ⟨w.heap.size, 3, none⟩ = some (iv h.shi) := by rw [← hW1]; clear hW1; go_simp
 have p4 : W1.cell? ⟨w.heap.size, 4, none⟩ = some (iv h.winch) := by rw [← hW1]; clear hW1; go_simp
 have HC : Hid (∀ W, BW W1 W → W.cell? ⟨w.heap.size, 0, none⟩ = some (.slice A h.ps.length cap) ∧ W.cell? ⟨w.heap.size, 1, none⟩ = some (.slice J h.js.length capJ) ∧ W.cell? ⟨w.heap.size, 2, none⟩ = some (iv h.slo) ∧ W.cell? ⟨w.heap.size, 3, none⟩ = some (iv h.shi) ∧ W.cell? ⟨w.heap.size, 4, none⟩ = some (iv h.winch)) := Lq fun W hb => ⟨keepC hb p0, keepC hb p1, keepC hb p2, keepC hb p3, keepC hb p4⟩
 have HB0 := Lq hb0
 have HH0 := Lq hH
 have HH := Lq (hH.below hb0 hB)
 have HL := Lq (hL.below hb0 hB)
 have HCK := Lq hck
 have hz1 := hb0.size
 clear hb0 hH hL hck
 obtain ⟨ca, cb, ce, hce⟩ : ∃ a b e, checkE h = (a, b, e) := ⟨_, _, _, rfl⟩
 by_cases hc0 : ce = 0
 case neg =>
  have hp := openPre_bad (h := h) (l := l) (by rw [hce]; exact hc0)
  have hne : openPre h l ≠ 0 := by rw [hp, hce]; exact hc0
  rw [hce] at hp
  have HP := Lq hp
  have HNE := Lq hne
  have hcb : (ce == 0) = false := by simpa using hc0
  clear hp hne hc0
  go_enter Tryz.func52, Tryz.ntmps52
  go_wp2_with fail
  refine HCK.out.mono ?_
  rintro e w1 ⟨rfl, hb⟩
  rw [hce]
  simp only [ret3]
  have HB1 := Lq (belowT HB0.out hb)
  clear hb hW1
  go_wp2
  go_ret2
  exact ⟨HB1.out, .inl ⟨HNE.out, by rw [HP.out]; rfl⟩⟩
 case pos =>
 subst hc0
 have hk := hulOk (h := h) (by rw [hce])
 by_cases hl6 : l.length ≤ 6
 case neg =>
  have hp := openPre_long (h := h) (l := l) (by rw [hce]) hl6
  have HP := Lq hp
  clear hp hk
  go_enter Tryz.func52, Tryz.ntmps52
  go_wp2_with fail
  refine HCK.out.mono ?_
  rintro e w1 ⟨rfl, hb⟩
  rw [hce]
  simp only [ret3]
  have HB1 := Lq (belowT HB0.out hb)
  clear hb hW1
  go_wp2
  go_ret2
  exact ⟨HB1.out, .inl ⟨by rw [HP.out]; decide, by rw [HP.out]; rfl⟩⟩
 case pos =>
 go_enter Tryz.func52, Tryz.ntmps52
 go_wp2_with fail
 refine HCK.out.mono ?_
 rintro e w1 ⟨rfl, hb⟩
 rw [hce]
 simp only [ret3]
 obtain ⟨p0, p1, p2, p3, p4⟩ := HC.out w1 hb
 have hz2 := hb.size
 have HB1 := Lq hb
 clear hb HCK hW1
 have hmm := @run_makeMap Tryz.prog
 go_wp2_with fail
 obtain ⟨w2, hw2⟩ := ex ((w1.alloc (.map #[] 0)).alloc (.cells #[.slice A h.ps.length cap, .slice J h.js.length capJ, iv h.slo, iv h.shi, iv h.winch, .pointer none, .map (some w1.heap.size)] 117))
 obtain ⟨g, hgd⟩ := ex (w1.heap.size + 1)
 obtain ⟨km, hkmd⟩ := ex w1.heap.size
 have hmap : w2.ownsMap Tryz.prog 3 (plainElem (H := Unit) Tryz.prog 3) km 0 (.map []) := by
  rw [← hw2, ← hkmd]; exact (World.ownsMap_made (H := Unit) w1 Tryz.prog 3 (plainElem Tryz.prog 3)).alloc _
 have c0 : w2.cell? ⟨g, 0, none⟩ = some (.slice A h.ps.length cap) := by rw [← hw2, ← hgd]; clear hw2; go_simp
 have c1 : w2.cell? ⟨g, 1, none⟩ = some (.slice J h.js.length capJ) := by rw [← hw2, ← hgd]; clear hw2; go_simp
 have c2 : w2.cell? ⟨g, 2, none⟩ = some (iv h.slo) := by rw [← hw2, ← hgd]; clear hw2; go_simp
 have c3 : w2.cell? ⟨g, 3, none⟩ = some (iv h.shi) := by rw [← hw2, ← hgd]; clear hw2; go_simp
 have c4 : w2.cell? ⟨g, 4, none⟩ = some (iv h.winch) := by rw [← hw2, ← hgd]; clear hw2; go_simp
 have c5 : w2.cell? ⟨g, 5, none⟩ = some (.pointer none) := by rw [← hw2, ← hgd]; clear hw2; go_simp
 have c6 : w2.cell? ⟨g, 6, none⟩ = some (.map (some km)) := by rw [← hw2, ← hgd]; clear hw2; go_simp
 have cf : ∀ o, w2.frozen? ⟨g, o, none⟩ = false := by rw [← hw2, ← hgd]; clear hw2; intro o; go_simp
 have hb12 : BW w1 w2 := by rw [← hw2]; exact belowA (belowA (belowR _) _) _
 have p0' : w2.cell? ⟨w.heap.size, 0, none⟩ = some (.slice A h.ps.length cap) := keepC hb12 p0
 have hz3 : w2.heap.size = w1.heap.size + 2 := by rw [← hw2]; simp
 have HB2 := Lq (belowT (belowT HB0.out HB1.out) hb12)
 have HH2 := Lq ((HH.out.below HB1.out (Nat.le_trans hB hz1)).below hb12 (by omega))
 have HL2 := Lq ((HL.out.below HB1.out (Nat.le_trans hB hz1)).below hb12 (by omega))
 have HMAP := Lq hmap
 have HD : Hid (∀ W, BW w2 W → W.cell? ⟨g, 0, none⟩ = some (.slice A h.ps.length cap) ∧ W.cell? ⟨g, 1, none⟩ = some (.slice J h.js.length capJ)) := Lq fun W hb => ⟨keepC hb c0, keepC hb c1⟩
 have HD2 : Hid (∀ W, BW w2 W → W.cell? ⟨g, 2, none⟩ = some (iv h.slo) ∧ W.cell? ⟨g, 3, none⟩ = some (iv h.shi) ∧ W.cell? ⟨g, 4, none⟩ = some (iv h.winch) ∧ W.cell? ⟨g, 5, none⟩ = some (.pointer none) ∧ W.cell? ⟨g, 6, none⟩ = some (.map (some km)) ∧ (∀ o, W.frozen? ⟨g, o, none⟩ = false) ∧ W.cell? ⟨w.heap.size, 0, none⟩ = some (.slice A h.ps.length cap)) := Lq fun W hb => ⟨keepC hb c2, keepC hb c3, keepC hb c4, keepC hb c5, keepC hb c6, fun o => (hb.frozen (p := ⟨g, o, none⟩) (lt_of_cell c0)).trans (cf o), keepC hb p0'⟩
 rw [hw2] 
 clear hmap c0 c1 c2 c3 c4 c5 c6 cf hb12 p0' HB1 HB0 HH HL HC p0 p1 p2 p3 p4 hw2
 rw [hgd]
 rw [hkmd]
 have hgk1 : km < g := by omega
 have hgk2 : g < w2.heap.size := by omega
 have hgk3 : w.heap.size ≤ km := by omega
 clear hmm hz3 hkmd hgd
 go_loopw [37] (fun vi wr => ∃ i : Nat, i ≤ l.length ∧ vi = iv i ∧ Hid (BW w2 wr) ∧ Hid (firstBad (weighedE h.ps.length h.js l) i = none)) (fun vi _ => l.length - (intOf vi).toNat)
 case atStart => exact ⟨0, Nat.zero_le _, rfl, Lq (belowR _), Lq rfl⟩
 case round =>
  obtain ⟨i, hi, rfl, HW, HF⟩ := hrel
  obtain ⟨c0, c1⟩ := HD.out wr HW.out
  have hzw := HW.out.size
  by_cases hlt : i < l.length
  ·obtain ⟨x, hx⟩ : ∃ x, l[i]? = some x := ⟨_, List.getElem?_eq_getElem hlt⟩
   obtain ⟨bb, off, rfl, hbB, e0, e1, e2⟩ := wghAt (HL2.out.below HW.out (by omega)) hx
   have hwE : weighedE h.ps.length h.js l i = if blockE h.ps.length h.js x.set = 0 then (if crossB (l.take i) x.set.toNat then 6 else rangeE 0 1000000 x.lo x.hi) else blockE h.ps.length h.js x.set := by unfold weighedE; rw [hx]
   obtain ⟨w3, hw3⟩ := ex (wr.alloc (.cells #[iv x.set, iv x.lo, iv x.hi] 54))
   have hb3 : BW wr w3 := by rw [← hw3]; exact belowA (belowR _) _
   have f0 : w3.cell? ⟨wr.heap.size, 0, none⟩ = some (iv x.set) := by rw [← hw3]; clear hw3; go_simp
   have f1 : w3.cell? ⟨wr.heap.size, 1, none⟩ = some (iv x.lo) := by rw [← hw3]; clear hw3; go_simp
   have f2 : w3.cell? ⟨wr.heap.size, 2, none⟩ = some (iv x.hi) := by rw [← hw3]; clear hw3; go_simp
   have hz4 := hb3.size
   have hblk := block_any g h.ps.length x.set A J h.js cap capJ B w3 hk.n1 hk.n8 hk.js hk.j12 (keepC hb3 c0) (keepC hb3 c1) ((HH2.out.js.below HW.out (by omega)).below hb3 (by omega)) (by omega)
   have HBLK := Lq hblk
   have HW3 := Lq (belowT HW.out hb3)
   have HX := Lq hx
   have HWE := Lq hwE
   clear hblk c0 c1 hx hwE hb3 HW
   go_wp2_with fail
   refine HBLK.out.mono ?_
   rintro e w4 ⟨rfl, hb4⟩
   have f0 := keepC hb4 f0
   have f1 := keepC hb4 f1
   have f2 := keepC hb4 f2
   have hz5 := hb4.size
   have HW4 := Lq (belowT HW3.out hb4)
   clear hb4 HW3 HBLK hw3
   by_cases hb0 : blockE h.ps.length h.js x.set = 0
   case neg =>
    have hp := openPre_at (h := h) (l := l) (by rw [hce]) hl6 hlt HF.out (by rw [HWE.out, if_neg hb0]; exact hb0)
    rw [HWE.out, if_neg hb0] at hp
    have HP := Lq hp
    obtain ⟨eb, heb⟩ := ex (blockE h.ps.length h.js x.set)
    rw [heb] at HP hb0 ⊢
    clear hp heb HWE e0 e1 e2
    have hcb : (eb == 0) = false := by simpa using hb0
    go_wp2
    go_ret2
    exact ⟨belowT HB2.out (HW4.out), .inl ⟨by rw [HP.out]; exact hb0, by rw [HP.out]; rfl⟩⟩
   case pos =>
   obtain ⟨s, hs, _, _, hxs, _⟩ := blockE_zero hk.n8 hb0
   have hwe := HWE.out
   rw [if_pos hb0, hxs, Int.toNat_natCast] at hwe
   rw [hb0]
   rw [hxs] at f0 ⊢
   have HWE := Lq hwe
   clear hwe hb0 e0 e1 e2
   go_wp2_with fail
   go_loopw [53] (fun vj wr5 => ∃ j : Nat, j ≤ i ∧ vj = iv j ∧ Hid (BW w4 wr5) ∧ Hid (crossB (l.take j) s = false)) (fun vj _ => i - (intOf vj).toNat)
   case atStart => exact ⟨0, Nat.zero_le _, rfl, Lq (belowR _), Lq rfl⟩
   case round =>
    obtain ⟨j, hj, rfl, HW5, HCR⟩ := hrel
    have f0 := keepC HW5.out f0
    have f1 := keepC HW5.out f1
    have f2 := keepC HW5.out f2
    have hz6 := HW5.out.size
    have hbx := lt_of_cell f0
    by_cases hjl : j < i
    ·obtain ⟨y, hy⟩ : ∃ y, l[j]? = some y := ⟨_, List.getElem?_eq_getElem (by omega)⟩
     obtain ⟨bb', off', he, hbB', e0, e1, e2⟩ := wghAt ((HL2.out.below HW4.out (by omega)).below HW5.out (by omega)) hy
     injection he with he
     injection he with he1 he2
     subst he1 he2
     have hyz := firstBad_none HF.out j hjl
     unfold weighedE at hyz
     rw [hy] at hyz
     simp only at hyz
     obtain ⟨t, ht, hyt⟩ : ∃ t : Nat, t < 256 ∧ y.set = (t : Int) := by
      split at hyz
      ·rename_i hyb
       obtain ⟨t, a, _, _, b, _⟩ := blockE_zero hk.n8 hyb
       exact ⟨t, a, b⟩
      ·exact absurd hyz (by assumption)
     have hsn := crossB_snoc l s j y hy
     rw [HCR.out, Bool.false_or, hyt, Int.toNat_natCast] at hsn
     rw [hyt] at e0
     clear hyz
     have hand := and64 (a := s) (b := t) (by omega) (by omega)
     have hal : (s &&& t) < 256 := Nat.lt_of_le_of_lt Nat.and_le_left hs
     have hcx : crossN s t = (!((((s &&& t : Nat) : Int)) == 0) && !((((s &&& t : Nat) : Int)) == (s : Int)) && !((((s &&& t : Nat) : Int)) == (t : Int))) := by
      unfold crossN
      rw [Bool.eq_iff_iff]
      simp
      omega
     obtain ⟨C, hC⟩ := ex (s &&& t)
     rw [hC] at hand hal hcx
     have HSN := Lq hsn
     have HCX := Lq hcx
     clear hC hsn hcx
     go_wp2_with fail
     all_goals first
      | exact ⟨⟨j + 1, by omega, by go_num, Lq (belowA HW5.out _), Lq (by rw [HSN.out, HCX.out]; simp; intros; omega)⟩, by simp [intOf]; omega⟩
      | skip
     ·rename_i _ _ h7 _
      have hcr : crossB (l.take (j + 1)) s = true := by
       rw [HSN.out, HCX.out]
       obtain ⟨⟨a1, a2⟩, a3⟩ := h7
       simp only [bne_iff_ne, ne_eq] at a1 a2 a3
       simp
       omega
      have hp := openPre_at (h := h) (l := l) (by rw [hce]) hl6 hlt HF.out (by rw [HWE.out, if_pos (crossB_mono hcr (by omega))]; decide)
      rw [HWE.out, if_pos (crossB_mono hcr (by omega))] at hp
      go_ret2
      exact ⟨belowT HB2.out (belowA (belowT HW4.out HW5.out) _), .inl ⟨by rw [hp]; decide, by rw [hp]; rfl⟩⟩
     ·rename_i _ _ h7
      refine ⟨⟨j + 1, by omega, by go_num, Lq (belowA HW5.out _), Lq ?_⟩, by simp [intOf]; omega⟩
      rw [HSN.out, HCX.out]
      have h8 : (C : Int) = t := by
       rcases h7 with (h7 | h7) | h7 <;> simp only [bne_eq_false_iff_eq] at h7 <;> omega
      simp [h8]
    ·obtain rfl : j = i := by omega
     have hwe := HWE.out
     rw [HCR.out] at hwe
     simp only [Bool.false_eq_true, if_false] at hwe
     have HWE := Lq hwe
     clear hwe HCR
     go_wp2_with fail
     refine (spanned_any _ _ _ _ _).mono ?_
     rintro e w6 ⟨rfl, hb6⟩
     have HW6 := Lq (belowT (belowT HW4.out HW5.out) hb6)
     clear hb6 HW4 HW5
     by_cases hr0 : rangeE 0 1000000 x.lo x.hi = 0
     ·have HFN := Lq (firstBad_succ HF.out (by rw [HWE.out]; exact hr0))
      rw [hr0]
      go_wp2_with fail
      go_roundw
      case rel => exact ⟨j + 1, by omega, by go_num, HW6, HFN⟩
      case measure => simp [intOf]; omega
     ·have hp := openPre_at (h := h) (l := l) (by rw [hce]) hl6 hlt HF.out (by rw [HWE.out]; exact hr0)
      rw [HWE.out] at hp
      have HP := Lq hp
      obtain ⟨eb, heb⟩ := ex (rangeE 0 1000000 x.lo x.hi)
      rw [heb] at HP hr0 ⊢
      have hcb : (eb == 0) = false := by simpa using hr0
      clear hp heb HWE
      go_wp2_with fail
      go_ret2
      exact ⟨belowT HB2.out HW6.out, .inl ⟨by rw [HP.out]; exact hr0, by rw [HP.out]; rfl⟩⟩
  ·obtain rfl : i = l.length := by omega
   have hpre := openPre_ok (h := h) (by rw [hce]) hl6 HF.out
   have HPRE := Lq hpre
   have htr := tree_any AL l h.ps.length B capL wr hk.n1 hk.n8 hl6 (HL2.out.below HW.out (by omega)) (by omega) (fun x hx => by obtain ⟨s, a1, _, _, a4, _⟩ := wghs_ok hpre x hx; exact ⟨s, a1, a4⟩)
   have HTR := Lq htr
   obtain ⟨d2, d3, d4, d5, d6, df, dp⟩ := HD2.out wr HW.out
   clear htr hpre HF c0 c1 d2 d3 d4 d6
   go_wp2_with fail
   refine HTR.out.mono ?_
   rintro e w6 ⟨br, N, bs, X, rfl, hb6, hX1, hX2, hN, htab, hbr, hoff⟩
   have hW6 := belowT HW.out hb6
   have HNT : Hid (IsTree h l N) := Lq ⟨X, hX1, hX2, hN⟩
   obtain ⟨d0, d1⟩ := HD.out w6 hW6
   obtain ⟨d2, d3, d4, d5', d6, df', _⟩ := HD2.out w6 hW6
   have hgS := lt_of_cell d5
   have hgS6 := lt_of_cell d5'
   obtain ⟨w7, hw7⟩ := ex (w6.setCell ⟨g, 5, none⟩ (ptr br))
   have hz7 : w7.heap.size = w6.heap.size := by rw [← hw7]; simp
   have hz6 := hb6.size
   have hkS : km < wr.heap.size := by omega
   have hof : ∀ {o : Nat} {u : Value}, o ≠ 5 → w6.cell? ⟨g, o, none⟩ = some u → w7.cell? ⟨g, o, none⟩ = some u := fun {o u} hne hc => by
    rw [← hw7, World.cell?_setCell_other _ _ _ _ (fun e => by injection e with _ e; exact hne e.symm)]; exact hc
   have ho7 : OnlyAt w6 w7 g := by rw [← hw7]; exact (OnlyAt.refl w6 g).set _ _
   have hB7 : BW w w7 := by rw [← hw7]; exact belowS (belowT HB2.out hW6) (by simp only; omega) _
   have hds : DeckSt w7 w6.heap.size g h A cap J capJ N bs br km :=
    ⟨hof (by decide) d0, hof (by decide) d1, hof (by decide) d2, hof (by decide) d3, hof (by decide) d4, by rw [← hw7]; exact World.cell?_setCell_same _ _ _ d5', hof (by decide) d6, htab.only2 (hoff g hgS) ho7, TabOff.keep htab (hoff km hkS) (fun b _ v hv _ => by
     rw [← hw7, World.cell?_setCell_other _ _ _ _ (fun e => by injection e with _ e; exact absurd e (by decide))]; exact hv), hbr, ⟨B, by omega, by omega, HH0.out.ps.below hB7 hB, HH0.out.js.below hB7 hB⟩, by omega, by omega, by omega⟩
   have hkn : KnownAt w7 km (mostV h N) := by
    have hk2 : KnownAt w2 km (mostV h N) := ⟨.map [], 0, HMAP.out, fun kl hkl => by simp [has] at hkl⟩
    have hk6 := hk2.below hW6
    obtain ⟨D, n, hm, hd⟩ := hk6
    exact ⟨D, n, by rw [← hw7]; exact hm.setCell (by simp only; omega) _, hd⟩
   have hT := treeOk_isTree HPRE.out HNT.out
   have hwg := hds.weigh hT (set := 0) (by decide)
   obtain ⟨M, hM⟩ := ex ((wgh h.ps N 0).1)
   obtain ⟨V, hV⟩ := ex ((wgh h.ps N 0).2)
   rw [hM, hV] at hwg
   have hf7 : ∀ o, w7.frozen? ⟨g, o, none⟩ = false := fun o => by rw [← hw7, World.frozen?_setCell]; exact df' o
   have f5 := df' 5
   have HDS := Lq hds
   have HKN := Lq hkn
   have HWG := Lq hwg
   have HF7 := Lq hf7
   have HB7 := Lq hB7
   have HV := Lq hV
   clear hds hkn hwg hf7 hB7 hT hof ho7 hM hV hX1 hX2 hN htab hbr hoff hb6 hW6 d0 d1 d2 d3 d4 d5 d6 df' df HTR HMAP HD HD2 HW
   go_wp2_with fail
   refine HWG.out.mono ?_
   rintro e w8 ⟨rfl, hb8⟩
   obtain ⟨ma, mb, mc, md⟩ := M
   have HB8 := Lq (belowT HB7.out hb8)
   have hds8 := HDS.out.below (Below.mono hb8 (Nat.le_refl _))
   have hkn8 := HKN.out.below hb8
   have hf8 : ∀ o, w8.frozen? ⟨g, o, none⟩ = false := fun o => (hb8.frozen (p := ⟨g, o, none⟩) (by simp only; omega)).trans (HF7.out o)
   have HDS8 := Lq hds8
   have HKN8 := Lq hkn8
   have HF8 := Lq hf8
   have hg8 : g < w8.heap.size := Nat.lt_of_lt_of_le (by omega) hb8.size
   clear hds8 hkn8 hf8 hb8 HDS HKN HF7 HB7 HWG hw7 d5' f5 dp
   cases V
   ·go_wp2_with fail
    go_ret2
    exact ⟨belowA HB8.out _, .inr ⟨HPRE.out, N, HNT.out, .inl ⟨HV.out, rfl⟩⟩⟩
   ·go_wp2_with fail
    go_ret2
    exact ⟨belowA HB8.out _, .inr ⟨HPRE.out, N, HNT.out, .inr ⟨HV.out, g, bs, br, km, w6.heap.size, rfl, by omega, by omega, HDS8.out.below (belowA (belowR _) _), HKN8.out.below (belowA (belowR _) _), fun o => (keepAF hg8 o _).trans (HF8.out o)⟩⟩⟩
end Go.Proofs.YtmhjhbchokbonaaGreat
namespace Go.Proofs.YtmhjhbchokbonaaGreat
open Go.RowKit
def Feas (h : Hul) (l : List Wgh) : Prop := ∃ w, TruthP h l w
def IsMost (h : Hul) (l : List Wgh) (s : Nat) (v : Int) : Prop := (∀ w, TruthP h l w → sumS w s ≤ v) ∧ ∃ w, TruthP h l w ∧ sumS w s = v
def IsLeast (h : Hul) (l : List Wgh) (s : Nat) (v : Int) : Prop := (∀ w, TruthP h l w → v ≤ sumS w s) ∧ ∃ w, TruthP h l w ∧ sumS w s = v
theorem IsMost.uniq {h : Hul} {l : List Wgh} {s : Nat} {v v' : Int} (a : IsMost h l s v) (b : IsMost h l s v') : v = v' := by
 obtain ⟨a1, w, a2, a3⟩ := a
 obtain ⟨b1, w', b2, b3⟩ := b
 have := a1 w' b2
 have := b1 w a2
 omega
theorem IsLeast.uniq {h : Hul} {l : List Wgh} {s : Nat} {v v' : Int} (a : IsLeast h l s v) (b : IsLeast h l s v') : v = v' := by
 obtain ⟨a1, w, a2, a3⟩ := a
 obtain ⟨b1, w', b2, b3⟩ := b
 have := a1 w' b2
 have := b1 w a2
 omega
section
variable {h : Hul} {l : List Wgh} {N : List Nd}
theorem feas_iff (hp : openPre h l = 0) (hN : IsTree h l N) (set : Nat) : (wgh h.ps N set).2 = true ↔ Feas h l := by
 have hg := wgh_truth hp hN set
 constructor
 ·intro hr
  have := hg.1 hr
  obtain ⟨w, hw, _⟩ := this.is (wgh h.ps N set).1.alo (Int.le_refl _) this.a
  exact ⟨w, hw⟩
 ·rintro ⟨w, hw⟩
  cases hr : (wgh h.ps N set).2 with
  | true => rfl
  | false => exact absurd hw (hg.2 hr w)
theorem inP {s n p : Nat} (hs : s < 2 ^ n) : (decide (p < n) && s.testBit p) = s.testBit p := by
 rcases Nat.lt_or_ge p n with h1 | h1
 ·simp [h1]
 ·rw [Nat.testBit_lt_two_pow (Nat.lt_of_lt_of_le hs (Nat.pow_le_pow_right (by decide) h1))]; simp
theorem mostV_is (hp : openPre h l = 0) (hN : IsTree h l N) (hf : Feas h l) {s : Nat} (hs : s < 2 ^ h.ps.length) : IsMost h l s (mostV h N s) := by
 have hg := (wgh_truth hp hN s).1 ((feas_iff hp hN s).2 hf)
 have e : ∀ w, sumP w (fun i => decide (i < h.ps.length) && s.testBit i) = sumS w s := fun w => sumP_congr (fun i _ => inP hs) (fun _ _ _ => rfl)
 refine ⟨fun w hw => ?_, ?_⟩
 ·have := hg.up w hw
  rw [e] at this
  exact this.2.2.1
 ·obtain ⟨w, hw, _, h3⟩ := hg.is (wgh h.ps N s).1.ahi hg.a (Int.le_refl _)
  rw [e] at h3
  refine ⟨w, hw, ?_⟩
  rw [h3]
  have := hg.d
  unfold mostV
  omega
theorem leastV_is (hp : openPre h l = 0) (hN : IsTree h l N) (hf : Feas h l) {s : Nat} (hs : s < 2 ^ h.ps.length) : IsLeast h l s (leastV h N s) := by
 obtain ⟨c, hc⟩ := ex (2 ^ h.ps.length - 1 - s)
 have hg := (wgh_truth hp hN c).1 ((feas_iff hp hN c).2 hf)
 have hb : ∀ i, c.testBit i = (decide (i < h.ps.length) && !s.testBit i) := fun i => by
  rw [← hc, show 2 ^ h.ps.length - 1 - s = 2 ^ h.ps.length - (s + 1) from by omega]
  exact Nat.testBit_two_pow_sub_succ hs i
 have e : ∀ w, sumP w (fun i => decide (i < h.ps.length)) = sumS w s + sumP w (fun i => decide (i < h.ps.length) && c.testBit i) := fun w => by
  unfold sumS
  rw [← sumP_union (fun i _ hx => by
   rw [hb i] at hx
   obtain ⟨a, b⟩ := hx
   rw [a] at b
   simp at b)]
  exact sumP_congr (fun i _ => by
   rw [hb i]
   have := @inP s h.ps.length i hs
   cases h1 : decide (i < h.ps.length) <;> cases h2 : s.testBit i <;> simp_all) (fun _ _ _ => rfl)
 have hlv : leastV h N s = (wgh h.ps N c).1.alo - (wgh h.ps N c).1.slo := by unfold leastV; rw [hc]
 rw [hlv]
 refine ⟨fun w hw => ?_, ?_⟩
 ·have := hg.up w hw
  have := e w
  omega
 ·obtain ⟨w, hw, h2, h3⟩ := hg.is (wgh h.ps N c).1.alo (Int.le_refl _) hg.a
  refine ⟨w, hw, ?_⟩
  have := e w
  have := hg.s
  omega
theorem mostV_bd (hp : openPre h l = 0) (hN : IsTree h l N) (hf : Feas h l) {s : Nat} (hs : s < 2 ^ h.ps.length) : 0 ≤ mostV h N s ∧ mostV h N s ≤ 800000 := by
 obtain ⟨_, w, hw, e⟩ := mostV_is hp hN hf hs
 have hk := hulOk (openPre_zero hp).1
 have := truth_bd hk hw hs
 have := hk.n8
 omega
theorem leastV_bd (hp : openPre h l = 0) (hN : IsTree h l N) (hf : Feas h l) {s : Nat} (hs : s < 2 ^ h.ps.length) : 0 ≤ leastV h N s ∧ leastV h N s ≤ 800000 := by
 obtain ⟨_, w, hw, e⟩ := leastV_is hp hN hf hs
 have hk := hulOk (openPre_zero hp).1
 have := truth_bd hk hw hs
 have := hk.n8
 omega
end
open Classical in
noncomputable def openE (h : Hul) (l : List Wgh) : Int := if openPre h l = 0 then (if Feas h l then 0 else 9) else openPre h l
structure DeckHere (w w' : World) (h : Hul) (A : Option Addr) (cap : Nat) (J : Option Addr) (capJ : Nat) (N : List Nd) (g : Nat) (bs : List Nat) (br km BD : Nat) : Prop where
 g0 : w.heap.size ≤ g
 k0 : w.heap.size ≤ km
 st : DeckSt w' BD g h A cap J capJ N bs br km
 kn : KnownAt w' km (mostV h N)
 fz : ∀ o, w'.frozen? ⟨g, o, none⟩ = false
theorem DeckHere.only {w w1 w2 : World} {h : Hul} {A : Option Addr} {cap : Nat} {J : Option Addr} {capJ : Nat} {N : List Nd} {g : Nat} {bs : List Nat} {br km BD : Nat} (H : DeckHere w w1 h A cap J capJ N g bs br km BD) (ho : OnlyAt w1 w2 km) (hk : KnownAt w2 km (mostV h N)) : DeckHere w w2 h A cap J capJ N g bs br km BD :=
 ⟨H.g0, H.k0, H.st.only ho (.inl rfl), hk, fun o => (ho.frozen o (Nat.lt_of_lt_of_le H.st.gB H.st.hB) H.st.gk).trans (H.fz o)⟩
theorem DeckHere.below {w w1 w2 : World} {h : Hul} {A : Option Addr} {cap : Nat} {J : Option Addr} {capJ : Nat} {N : List Nd} {g : Nat} {bs : List Nat} {br km BD : Nat} (H : DeckHere w w1 h A cap J capJ N g bs br km BD) (hb : BW w1 w2) : DeckHere w w2 h A cap J capJ N g bs br km BD :=
 H.only (OnlyAt.of_below hb km) (H.kn.below hb)
theorem openPost_cases {h : Hul} {A : Option Addr} {cap : Nat} {J : Option Addr} {capJ : Nat} {l : List Wgh} {w w' : World} {e : Ending} (H : OpenPost h A cap J capJ l w e w') :
  BW w w' ∧ ((openE h l ≠ 0 ∧ e = .returned (.tuple #[.pointer none, iv (openE h l)])) ∨ (openE h l = 0 ∧ openPre h l = 0 ∧ Feas h l ∧ ∃ N g bs br km BD, IsTree h l N ∧ e = .returned (.tuple #[ptr g, iv 0]) ∧ DeckHere w w' h A cap J capJ N g bs br km BD)) := by
 obtain ⟨hb, H⟩ := H
 refine ⟨hb, ?_⟩
 rcases H with ⟨h1, h2⟩ | ⟨h1, N, hN, H⟩
 ·have e : openE h l = openPre h l := by unfold openE; rw [if_neg h1]
  exact .inl ⟨by rw [e]; exact h1, by rw [e]; exact h2⟩
 ·rcases H with ⟨h2, h3⟩ | ⟨h2, g, bs, br, km, BD, h3, h4, h5, h6, h7, h8⟩
  ·have hf : ¬ Feas h l := fun hf => by rw [(feas_iff h1 hN 0).2 hf] at h2; cases h2
   have e : openE h l = 9 := by unfold openE; rw [if_pos h1, if_neg hf]
   exact .inl ⟨by rw [e]; decide, by rw [e]; exact h3⟩
  ·have hf := (feas_iff h1 hN 0).1 h2
   have e : openE h l = 0 := by unfold openE; rw [if_pos h1, if_pos hf]
   exact .inr ⟨e, h1, hf, N, g, bs, br, km, BD, hN, h3, h4, h5, h6, h7, h8⟩
theorem hulBox (w : World) (h : Hul) (A : Option Addr) (cap : Nat) (J : Option Addr) (capJ : Nat) : ∃ W1, w.alloc (.cells #[.slice A h.ps.length cap, .slice J h.js.length capJ, iv h.slo, iv h.shi, iv h.winch] 40) = W1 ∧ BW w W1 ∧ W1.heap.size = w.heap.size + 1 ∧
  W1.cell? ⟨w.heap.size, 0, none⟩ = some (.slice A h.ps.length cap) ∧ W1.cell? ⟨w.heap.size, 1, none⟩ = some (.slice J h.js.length capJ) ∧ W1.cell? ⟨w.heap.size, 2, none⟩ = some (iv h.slo) ∧ W1.cell? ⟨w.heap.size, 3, none⟩ = some (iv h.shi) ∧ W1.cell? ⟨w.heap.size, 4, none⟩ = some (iv h.winch) :=
 ⟨_, rfl, belowA (belowR _) _, by simp, by go_simp, by go_simp, by go_simp, by go_simp, by go_simp⟩
noncomputable def enterE (h : Hul) (l : List Wgh) (set : Int) : Int := if openE h l = 0 then blockE h.ps.length h.js set else openE h l
def EnterPost (h : Hul) (A : Option Addr) (cap : Nat) (J : Option Addr) (capJ : Nat) (l : List Wgh) (set : Int) (w : World) (e : Ending) (w' : World) : Prop :=
 BW w w' ∧ ((enterE h l set ≠ 0 ∧ ∃ d, e = .returned (.tuple #[.pointer d, iv (enterE h l set)])) ∨ (enterE h l set = 0 ∧ openPre h l = 0 ∧ Feas h l ∧ blockE h.ps.length h.js set = 0 ∧ ∃ N g bs br km BD, IsTree h l N ∧ e = .returned (.tuple #[ptr g, iv 0]) ∧ DeckHere w w' h A cap J capJ N g bs br km BD))
theorem enter_any (h : Hul) (A J : Option Addr) (B cap capJ : Nat) (AL : Option Addr) (l : List Wgh) (capL : Nat) (set : Int) (w : World) (hH : HulRd w B h A cap J capJ) (hL : RdN 3 encWgh w B AL l) (hlc : l.length ≤ capL) (hB : B ≤ w.heap.size) :
  Calls Tryz.prog 69 #[hv h A cap J capJ, .slice AL l.length capL, iv set] w (EnterPost h A cap J capJ l set w) := by
 obtain ⟨W1, hW1, hb0, hz1, p0, p1, p2, p3, p4⟩ := hulBox w h A cap J capJ
 have hop := open_any h A J B cap capJ AL l capL W1 (hH.below hb0 hB) (hL.below hb0 hB) hlc (Nat.le_trans hB hb0.size)
 have HOP := Lq hop
 have HB0 := Lq hb0
 have hz1 : w.heap.size ≤ W1.heap.size := hb0.size
 clear hop hb0 hH hL
 go_enter Tryz.func69, Tryz.ntmps69
 go_wp2_with fail
 refine HOP.out.mono ?_
 intro e w1 hpost
 obtain ⟨hb1, hpost⟩ := openPost_cases hpost
 have HB1 := Lq (belowT HB0.out hb1)
 have hz2 := hb1.size
 clear hb1 HOP hW1 HB0
 rcases hpost with ⟨hne, rfl⟩ | ⟨h0, hp, hf, N, g, bs, br, km, BD, hN, rfl, HD⟩
 ·have hee : enterE h l set = openE h l := by unfold enterE; rw [if_neg hne]
  have HE := Lq hee
  obtain ⟨E, hE⟩ := ex (openE h l)
  rw [hE] at HE hne ⊢
  have hcb : (E == 0) = false := by simpa using hne
  clear hee hE
  go_wp2_with fail
  go_ret2
  exact ⟨HB1.out, .inl ⟨by rw [HE.out]; exact hne, none, by rw [HE.out]; rfl⟩⟩
 ·have hk := hulOk (openPre_zero hp).1
  have hee : enterE h l set = blockE h.ps.length h.js set := by unfold enterE; rw [if_pos h0]
  have hbl := block_any g h.ps.length set A J h.js cap capJ BD w1 hk.n1 hk.n8 hk.js hk.j12 HD.st.c0 HD.st.c1 HD.st.rj HD.st.hB
  obtain ⟨E, hE⟩ := ex (blockE h.ps.length h.js set)
  rw [hE] at hbl hee
  have HE := Lq hee
  have HEB := Lq hE
  have HBL := Lq hbl
  have HDD := Lq HD
  clear hee hE hbl HD
  go_wp2_with fail
  refine HBL.out.mono ?_
  rintro e w2 ⟨rfl, hb2⟩
  have HB2 := Lq hb2
  clear hb2 HBL
  go_wp2_with fail
  go_ret2
  by_cases hE0 : E = 0
  ·subst hE0
   have hd := HDD.out.below HB2.out
   exact ⟨belowT HB1.out HB2.out, .inr ⟨HE.out, hp, hf, HEB.out, N, g, bs, br, km, BD, hN, rfl, ⟨Nat.le_trans hz1 hd.g0, Nat.le_trans hz1 hd.k0, hd.st, hd.kn, hd.fz⟩⟩⟩
  ·exact ⟨belowT HB1.out HB2.out, .inl ⟨by rw [HE.out]; exact hE0, some ⟨g, 0, none⟩, by rw [HE.out]; rfl⟩⟩
def upD (n b : Int) : Int := (n + b - 1).tdiv b
def pullV (h : Hul) (lo hi : Int) : Int × Int := ((lo * h.slo).tdiv 1000, upD (hi * h.shi) 1000)
def PullPost (h : Hul) (l : List Wgh) (set : Int) (w : World) (e : Ending) (w' : World) : Prop :=
 BW w w' ∧ ((enterE h l set ≠ 0 ∧ e = .returned (.tuple #[.agg #[iv 0, iv 0], iv (enterE h l set)])) ∨ (enterE h l set = 0 ∧ openPre h l = 0 ∧ Feas h l ∧ blockE h.ps.length h.js set = 0 ∧ ∃ N, IsTree h l N ∧ e = .returned (.tuple #[.agg #[iv (pullV h (leastV h N set.toNat) (mostV h N set.toNat)).1, iv (pullV h (leastV h N set.toNat) (mostV h N set.toNat)).2], iv 0])))
theorem pull_any (h : Hul) (A J : Option Addr) (B cap capJ : Nat) (AL : Option Addr) (l : List Wgh) (capL : Nat) (set : Int) (w : World) (hH : HulRd w B h A cap J capJ) (hL : RdN 3 encWgh w B AL l) (hlc : l.length ≤ capL) (hB : B ≤ w.heap.size) :
  Calls Tryz.prog 33 #[hv h A cap J capJ, .slice AL l.length capL, iv set] w (PullPost h l set w) := by
 obtain ⟨W1, hW1, hb0, hz1, p0, p1, p2, p3, p4⟩ := hulBox w h A cap J capJ
 obtain ⟨W2, hW2⟩ := ex (W1.alloc (.cells #[iv 0, iv 0] 36))
 have hb1 : BW w W2 := by rw [← hW2]; exact belowA hb0 _
 have hz2 : W2.heap.size = w.heap.size + 2 := by rw [← hW2]; simp [hz1]
 have hb12 : BW W1 W2 := by rw [← hW2]; exact belowA (belowR _) _
 have p0 := keepC hb12 p0
 have p1 := keepC hb12 p1
 have p2 := keepC hb12 p2
 have p3 := keepC hb12 p3
 have p4 := keepC hb12 p4
 have q0 : W2.cell? ⟨W1.heap.size, 0, none⟩ = some (iv 0) := by rw [← hW2]; clear hW2 hz1 hz2; go_simp
 have q1 : W2.cell? ⟨W1.heap.size, 1, none⟩ = some (iv 0) := by rw [← hW2]; clear hW2 hz1 hz2; go_simp
 have qf : ∀ o, W2.frozen? ⟨W1.heap.size, o, none⟩ = false := by rw [← hW2]; clear hW2 hz1 hz2; intro o; go_simp
 have hen := enter_any h A J B cap capJ AL l capL set W2 (hH.below hb1 hB) (hL.below hb1 hB) hlc (Nat.le_trans hB hb1.size)
 have HEN := Lq hen
 have HB1 := Lq hb1
 have hz3 : W1.heap.size < W2.heap.size := by omega
 have hz4 : w.heap.size ≤ W1.heap.size := by omega
 have QF := Lq qf
 clear hen hb1 hb0 hb12 hH hL hz2 hz1
 go_enter Tryz.func33, Tryz.ntmps33
 go_wp2_with fail
 refine HEN.out.mono ?_
 rintro e w1 ⟨hb2, hpost⟩
 have q0 := keepC hb2 q0
 have q1 := keepC hb2 q1
 have f0 : w1.frozen? ⟨W1.heap.size, 0, none⟩ = false := (hb2.frozen (p := ⟨W1.heap.size, 0, none⟩) hz3).trans (QF.out 0)
 have f1 : w1.frozen? ⟨W1.heap.size, 1, none⟩ = false := (hb2.frozen (p := ⟨W1.heap.size, 1, none⟩) hz3).trans (QF.out 1)
 have HB2 := Lq (belowT HB1.out hb2)
 have hz5 := hb2.size
 clear hb2 HEN hW1 hW2 HB1 QF p0 p1 p2 p3 p4
 rcases hpost with ⟨hne, d, rfl⟩ | ⟨h0, hp, hf, hbl, N, g, bs, br, km, BD, hN, rfl, HD⟩
 ·obtain ⟨E, hE⟩ := ex (enterE h l set)
  have HE := Lq hE
  rw [hE] at hne ⊢
  have hcb : (E == 0) = false := by simpa using hne
  clear hE
  go_wp2_with fail
  obtain ⟨wx, hwx⟩ := ex ((w1.setCell ⟨W1.heap.size, 0, none⟩ (iv 0)).setCell ⟨W1.heap.size, 1, none⟩ (iv 0))
  have y0 : wx.cell? ⟨W1.heap.size, 0, none⟩ = some (iv 0) := by rw [← hwx]; clear hwx; go_simp
  have y1 : wx.cell? ⟨W1.heap.size, 1, none⟩ = some (iv 0) := by rw [← hwx]; clear hwx; go_simp
  have hbx : BW w wx := by rw [← hwx]; exact belowS (belowS HB2.out hz4 _) hz4 _
  rw [hwx]
  refine bodyPost_ret (v := .tuple #[.agg #[iv 0, iv 0], iv E]) (by simp [results, Tryz.results33, go_sem, y0, y1]) rfl ?_
  exact ⟨hbx, .inl ⟨by rw [HE.out]; exact hne, by rw [HE.out]⟩⟩
 ·have hk := hulOk (openPre_zero hp).1
  obtain ⟨s, hs, _, hs2, rfl, _⟩ := blockE_zero hk.n8 hbl
  have hT := treeOk_isTree hp hN
  have hD0 : DeckSt w1.drew BD g h A cap J capJ N bs br km := HD.st.only (OnlyAt.refl w1 km).drew (.inl rfl)
  have hle := least_any hD0 hT s hs2
  have hkn0 : KnownAt w1.drew km (mostV h N) := HD.kn.drew
  have hmo := fun (W : World) (hb : BW w1.drew W) => most_any (hD0.below hb) hT (hkn0.below hb) s hs
  have bl := leastV_bd hp hN hf hs2
  have bm := mostV_bd hp hN hf hs2
  have HC : Hid (∀ W, OnlyAt w1 W km → W.cell? ⟨g, 2, none⟩ = some (iv h.slo) ∧ W.cell? ⟨g, 3, none⟩ = some (iv h.shi)) := Lq fun W ho => ⟨(HD.st.only ho (.inl rfl)).c2, (HD.st.only ho (.inl rfl)).c3⟩
  have hk1 : km ≠ W1.heap.size := by have := HD.k0; omega
  have HQ : Hid (∀ W, OnlyAt w1 W km → W.cell? ⟨W1.heap.size, 0, none⟩ = some (iv 0) ∧ W.cell? ⟨W1.heap.size, 1, none⟩ = some (iv 0) ∧ W.frozen? ⟨W1.heap.size, 0, none⟩ = false ∧ W.frozen? ⟨W1.heap.size, 1, none⟩ = false) := Lq fun W ho => ⟨ho.cell q0 (fun e => hk1 e.symm), ho.cell q1 (fun e => hk1 e.symm), (ho.frozen 0 (lt_of_cell q0) (fun e => hk1 e.symm)).trans f0, (ho.frozen 1 (lt_of_cell q0) (fun e => hk1 e.symm)).trans f1⟩
  have hg2 := HD.g0
  have c2 := HD.st.c2
  have c3 := HD.st.c3
  have HPV : Hid (pullV h (leastV h N s) (mostV h N s) = ((leastV h N s * h.slo).tdiv 1000, upD (mostV h N s * h.shi) 1000)) := Lq rfl
  obtain ⟨lv, hlv⟩ := ex (leastV h N s)
  obtain ⟨mv, hmv⟩ := ex (mostV h N s)
  rw [hlv] at hle bl HPV
  rw [hmv] at hmo bm HPV
  have HLE := Lq hle
  have HMO := Lq hmo
  have hx1 : 0 ≤ lv * h.slo := Int.mul_nonneg bl.1 (by have := hk.s1; omega)
  have hx2 : lv * h.slo ≤ 800000 * 2000 := Int.mul_le_mul bl.2 (by have := hk.s2; have := hk.s3; omega) (by have := hk.s1; omega) (by omega)
  have hy1 : 0 ≤ mv * h.shi := Int.mul_nonneg bm.1 (by have := hk.s1; have := hk.s2; omega)
  have hy2 : mv * h.shi ≤ 800000 * 2000 := Int.mul_le_mul bm.2 hk.s3 (by have := hk.s1; have := hk.s2; omega) (by omega)
  have hw1 : IntKind.i64.wrap (lv * h.slo) = lv * h.slo := wrap62 _ hx1 (by omega)
  have hw2 : IntKind.i64.wrap (mv * h.shi) = mv * h.shi := wrap62 _ hy1 (by omega)
  have hq0 : 0 ≤ (lv * h.slo).tdiv 1000 := Int.tdiv_nonneg hx1 (by decide)
  have hq1 : (lv * h.slo).tdiv 1000 ≤ lv * h.slo := by rw [Int.tdiv_eq_ediv_of_nonneg hx1]; exact Int.ediv_le_self _ hx1
  have hw3 : IntKind.i64.wrap ((lv * h.slo).tdiv 1000) = (lv * h.slo).tdiv 1000 := wrap62 _ hq0 (by omega)
  have hup := fun W => upDiv_any (w := W) (mv * h.shi) 1000 hy1 (by omega) (by decide) (by decide)
  have HUP := Lq hup
  have HLV := Lq hlv
  have HMV := Lq hmv
  have HGD : Hid (BW w w1 ∧ w.heap.size ≤ km ∧ openPre h l = 0 ∧ Feas h l ∧ blockE h.ps.length h.js s = 0 ∧ IsTree h l N ∧ enterE h l s = 0) := Lq ⟨HB2.out, by have := HD.k0; omega, hp, hf, hbl, hN, h0⟩
  clear hle hmo hup hD0 hkn0 hT HD hlv hmv hN hp hf hbl h0 bl bm hk
  go_wp2_with fail
  have hg1 : g ≠ W1.heap.size := by omega
  have HD0 : Hid (OnlyAt w1 w1.drew km) := Lq (OnlyAt.refl w1 km).drew
  go_region_held3 (fun W => W.cell? ⟨g, 2, none⟩ = some (iv h.slo) ∧ W.cell? ⟨g, 3, none⟩ = some (iv h.shi)) (first | exact HC.out w1.drew HD0.out | exact HC.out w2 ho2 | exact HC.out w3 ho3 | exact HC.out w4 ho4 | exact ⟨keepSet (keepSet (HC.out w4 ho4).1 hg1) hg1, keepSet (keepSet (HC.out w4 ho4).2 hg1) hg1⟩) (first | (go_at_call 53; (with_reducible refine HLE.out.mono ?_); rintro e w2 ⟨rfl, hb2⟩; have ho2 : OnlyAt w1 w2 km := HD0.out.trans (OnlyAt.of_below hb2 km)) | (go_at_call 54; (with_reducible refine (HMO.out w2 hb2).mono ?_); rintro e w3 ⟨rfl, ho3', hk3⟩; have ho3 : OnlyAt w1 w3 km := ho2.trans ho3') | (go_at_call 70; (with_reducible refine (HUP.out w3).mono ?_); rintro e w4 ⟨rfl, hb4⟩; have ho4 : OnlyAt w1 w4 km := ho3.trans (OnlyAt.of_below hb4 km); obtain ⟨q0, q1, f0, f1⟩ := HQ.out w4 ho4))
  rename_i hHeld
  clear hHeld
  obtain ⟨wx, hwx⟩ := ex ((w4.setCell ⟨W1.heap.size, 0, none⟩ (iv ((lv * h.slo).tdiv 1000))).setCell ⟨W1.heap.size, 1, none⟩ (iv ((mv * h.shi + 1000 - 1).tdiv 1000)))
  have y0 : wx.cell? ⟨W1.heap.size, 0, none⟩ = some (iv ((lv * h.slo).tdiv 1000)) := by rw [← hwx]; clear hwx; go_simp
  have y1 : wx.cell? ⟨W1.heap.size, 1, none⟩ = some (iv ((mv * h.shi + 1000 - 1).tdiv 1000)) := by rw [← hwx]; clear hwx; go_simp
  obtain ⟨g1, g2, g3, g4, g5, g6, g7⟩ := HGD.out
  have hbx : BW w wx := by rw [← hwx]; exact belowS (belowS (ho4.below g1 g2) hz4 _) hz4 _
  rw [hwx]
  clear q0 q1 f0 f1 hwx c2 c3
  go_wp2_with fail
  refine bodyPost_ret (v := .tuple #[.agg #[iv ((lv * h.slo).tdiv 1000), iv ((mv * h.shi + 1000 - 1).tdiv 1000)], iv 0]) (by simp [results, Tryz.results33, go_sem, y0, y1]) rfl ?_
  exact ⟨hbx, .inr ⟨g7, g3, g4, g5, N, g6, by rw [Int.toNat_natCast, HLV.out, HMV.out, HPV.out]; rfl⟩⟩
theorem Tryz.info36 : (Tryz.prog.info? 36).map (fun i => (i.zero, i.size, i.bytes)) = some (some (.agg #[iv 0, iv 0]), 2, 16) := by kernel_rfl
theorem Tryz.info3 : (Tryz.prog.info? 3).map (fun i => (i.zero, i.size, i.bytes)) = some (some (iv 0), 1, 8) := by kernel_rfl
theorem own_below {w w' : World} {base : Nat} {e : TypeId} {size : Nat} {v : Value} {n : Nat} {xs : List Value} (h : w.ownsRow base e size v n xs) (hb : BW w w') : w'.ownsRow base e size v n xs :=
 ownKeep h fun k hk => hb.block k (h.lt k hk).2
theorem own_base {w : World} {base base' : Nat} {e : TypeId} {size : Nat} {v : Value} {n : Nat} {xs : List Value} (h : w.ownsRow base e size v n xs) (hb : base' ≤ base) : w.ownsRow base' e size v n xs := by
 obtain ⟨h1, h2⟩ := h
 refine ⟨h1, ?_⟩
 rcases h2 with h2 | ⟨g, cap, cur, hv, hg, r⟩
 ·exact Or.inl h2
 ·exact Or.inr ⟨g, cap, cur, hv, Nat.le_trans hb hg, r⟩
theorem own_only {w w' : World} {base km : Nat} {e : TypeId} {size : Nat} {v : Value} {n : Nat} {xs : List Value} (h : w.ownsRow base e size v n xs) (hb : OnlyAt w w' km) (hk : km < base) : w'.ownsRow base e size v n xs :=
 ownKeep h fun k hk' => hb.block k (h.lt k hk').2 (by have := (h.lt k hk').1; omega)
theorem OnlyAt.grown {a w w' : World} {base km : Nat} {e : TypeId} {size : Nat} {v : Value} {n : Nat} {xs : List Value} (ho : OnlyAt a w km) (h : w.ownsRow base e size v n xs) (hg : w.grownBy w' v.ownBlock) (hb : a.heap.size ≤ base) : OnlyAt a w' km :=
 ⟨hg.os.trans ho.os, hg.tape.trans ho.tape, hg.output.trans ho.output, Nat.le_trans ho.size hg.size, fun k hk hne => (hg.block k (Nat.lt_of_lt_of_le hk ho.size) (fun e => by have := (h.lt k e.symm).1; omega)).trans (ho.block k hk hne)⟩
theorem KnownAt.grown {w w' : World} {base km : Nat} {f : Nat → Int} {e : TypeId} {size : Nat} {v : Value} {n : Nat} {xs : List Value} (hk : KnownAt w km f) (h : w.ownsRow base e size v n xs) (hg : w.grownBy w' v.ownBlock) (hb : km < base) : KnownAt w' km f := by
 obtain ⟨D, m, ho, hd⟩ := hk
 exact ⟨D, m, ho.kept hg (fun e => by have := (h.lt km e.symm).1; omega), hd⟩
theorem KnownAt.lt {w : World} {km : Nat} {f : Nat → Int} (hk : KnownAt w km f) : km < w.heap.size := by
 obtain ⟨D, m, ho, hd⟩ := hk
 exact ho.lt
def spansV (h : Hul) (N : List Nd) (k : Nat) : List (Int × Int) := (List.range k).map fun i => (leastV h N (2 ^ i), mostV h N (2 ^ i))
theorem spansV_len (h : Hul) (N : List Nd) (k : Nat) : (spansV h N k).length = k := by simp [spansV]
theorem spansV_succ (h : Hul) (N : List Nd) (k : Nat) : spansV h N (k + 1) = spansV h N k ++ [(leastV h N (2 ^ k), mostV h N (2 ^ k))] := by simp [spansV, List.range_succ]
theorem encSp_len : ∀ x : Int × Int, (encSp x).length = 2 := fun _ => rfl
def WeightsPost (h : Hul) (l : List Wgh) (w : World) (e : Ending) (w' : World) : Prop :=
 BW w w' ∧ ((openE h l ≠ 0 ∧ e = .returned (.tuple #[.slice none 0 0, iv (openE h l)])) ∨ (openE h l = 0 ∧ openPre h l = 0 ∧ Feas h l ∧ ∃ N A cap, IsTree h l N ∧ e = .returned (.tuple #[.slice A h.ps.length cap, iv 0]) ∧ w'.ownsRow w.heap.size 36 2 (.slice A h.ps.length cap) h.ps.length ((spansV h N h.ps.length).flatMap encSp)))
theorem weights_any (h : Hul) (A J : Option Addr) (B cap capJ : Nat) (AL : Option Addr) (l : List Wgh) (capL : Nat) (w : World) (hH : HulRd w B h A cap J capJ) (hL : RdN 3 encWgh w B AL l) (hlc : l.length ≤ capL) (hB : B ≤ w.heap.size) :
  Calls Tryz.prog 12 #[hv h A cap J capJ, .slice AL l.length capL] w (WeightsPost h l w) := by
 obtain ⟨i0, hi0, hz0, hzz1, hzz2⟩ := info_parts Tryz.info36
 obtain ⟨W1, hW1, hb0, hz1, p0, p1, p2, p3, p4⟩ := hulBox w h A cap J capJ
 have hop := open_any h A J B cap capJ AL l capL W1 (hH.below hb0 hB) (hL.below hb0 hB) hlc (Nat.le_trans hB hb0.size)
 have HOP := Lq hop
 have HB0 := Lq hb0
 have hz1 : w.heap.size ≤ W1.heap.size := hb0.size
 clear hop hb0 hH hL
 go_enter Tryz.func12, Tryz.ntmps12
 go_wp2_with fail
 refine HOP.out.mono ?_
 intro e w1 hpost
 obtain ⟨hb1, hpost⟩ := openPost_cases hpost
 have HB1 := Lq (belowT HB0.out hb1)
 have hz2 := hb1.size
 clear hb1 HOP hW1 HB0 p0 p1 p2 p3 p4
 rcases hpost with ⟨hne, rfl⟩ | ⟨h0, hp, hf, N, g, bs, br, km, BD, hN, rfl, HD⟩
 ·obtain ⟨E, hE⟩ := ex (openE h l)
  have HE := Lq hE
  rw [hE] at hne ⊢
  have hcb : (E == 0) = false := by simpa using hne
  clear hE
  go_wp2_with fail
  go_ret2
  exact ⟨HB1.out, .inl ⟨by rw [HE.out]; exact hne, by rw [HE.out]; rfl⟩⟩
 ·have hk := hulOk (openPre_zero hp).1
  have hn8 := hk.n8
  have hT := treeOk_isTree hp hN
  have hkm := HD.kn.lt
  have hk0 := HD.k0
  have c0 := HD.st.c0
  have HD0 := Lq HD
  have HFC : Hid (∀ e w', (BW w w' ∧ ∃ A cap, e = .returned (.tuple #[.slice A h.ps.length cap, iv 0]) ∧ w'.ownsRow w1.heap.size 36 2 (.slice A h.ps.length cap) h.ps.length ((spansV h N h.ps.length).flatMap encSp)) → WeightsPost h l w e w') := Lq fun e w' ⟨a, A, cap, b, c⟩ => ⟨a, .inr ⟨h0, hp, hf, N, A, cap, hN, b, own_base c (by omega)⟩⟩
  have HLM : Hid (∀ (W : World) (i : Nat), i < h.ps.length → DeckSt W BD g h A cap J capJ N bs br km → Calls Tryz.prog 53 #[ptr g, iv ((2 ^ i : Nat) : Int)] W (Rt W (iv (leastV h N (2 ^ i))))) := Lq fun W i hi H => least_any H hT (2 ^ i) (Nat.pow_lt_pow_right (by decide) hi)
  have HMM : Hid (∀ (W : World) (i : Nat), i < h.ps.length → DeckSt W BD g h A cap J capJ N bs br km → KnownAt W km (mostV h N) → Calls Tryz.prog 54 #[ptr g, iv ((2 ^ i : Nat) : Int)] W (MostPost (mostV h N (2 ^ i)) km (mostV h N) W)) := Lq fun W i hi H hK => most_any H hT hK (2 ^ i) (pow_lt (by omega))
  obtain ⟨POST, hPOST⟩ := ex (WeightsPost h l w)
  rw [hPOST] at HFC
  clear HD hN hf hT h0
  go_wp2_with fail
  go_loopw [4, 23] (fun vv vi wr => ∃ (k : Nat) (vo : Value), k ≤ h.ps.length ∧ vi = iv k ∧ vo = vv ∧ Hid (wr.ownsRow w1.heap.size 36 2 vo k ((spansV h N k).flatMap encSp)) ∧ Hid (OnlyAt w1 wr km) ∧ Hid (KnownAt wr km (mostV h N))) (fun _ vi _ => h.ps.length - (intOf vi).toNat)
  case atStart => exact ⟨0, _, Nat.zero_le _, rfl, rfl, Lq (World.ownsRow_nil _ _ _ _), Lq (OnlyAt.refl w1 km), Lq HD0.out.kn⟩
  case round =>
   obtain ⟨k, vo, hkk, rfl, rfl, HO, HA, HK⟩ := hrel
   by_cases hlt : k < h.ps.length
   ·have hds := HD0.out.st.only HA.out (.inl rfl)
    have hds0 : DeckSt wr.drew BD g h A cap J capJ N bs br km := hds.only (OnlyAt.refl wr km).drew (.inl rfl)
    have hsh := shl1 k (by omega)
    have HC1 := Lq (HLM.out wr.drew k hlt hds0)
    have HC2 := Lq (fun W (hb : BW wr.drew W) => HMM.out W k hlt (hds0.below hb) (HK.out.drew.below hb))
    have hsn := spansV_succ h N k
    obtain ⟨x, hx⟩ := ex (leastV h N (2 ^ k))
    obtain ⟨y, hy⟩ := ex (mostV h N (2 ^ k))
    rw [hx] at HC1 hsn
    rw [hy] at HC2 hsn
    obtain ⟨P, hP⟩ := ex ((2 ^ k : Nat))
    rw [hP] at HC1 HC2 hsh
    obtain ⟨F, hF⟩ := ex (mostV h N)
    rw [hF] at HC2
    have HFF := Lq hF
    have HSN := Lq hsn
    have hk9 : k + 1 ≤ maxLen := by unfold maxLen; omega
    have hk16 : (k + 1) * 16 ≤ 140737488355328 := by omega
    have hzr := HA.out.size
    clear hsn hx hy hP hF hds hds0
    go_wp2_with fail
    go_region_held3 (fun _ => True) (trivial) (first | (have hownA := (own_only (own_below HO.out (undrew0 hb3)) ho4 hkm).alloc (.cells #[iv x, iv y] 36); have hz4 : w1.heap.size ≤ w4.heap.size := Nat.le_trans hzr (Nat.le_trans (undrew0 hb3).size ho4.size); refine step_append_lies _ (by rfl) _ _ _ (by rfl) w1.heap.size 36 i0 _ 2 16 Tryz.underlying57 hi0 hz0 hzz1 hzz2 rfl (by omega) _ k _ (by rfl) hownA ⟨w4.heap.size, 0, none⟩ 1 1 [iv x, iv y] (by rfl) (by rfl) (World.news_of_block (cs := #[iv x, iv y]) (t := 36) (fr := (0, 0)) (heap_alloc_new w4 _)) (by simp [Value.oneCell']) (by omega) hk9 hk16 (by simp; omega) (w4.heap.size + 1) (by simp) ?_; intro gg cap9 w5 hown5 hgrow hat hlt5) | (go_at_call 53; ((with_reducible refine HC1.out.mono ?_); rintro e w3 ⟨rfl, hb3⟩)) | (go_at_call 54; ((with_reducible refine (HC2.out w3 hb3).mono ?_); rintro e w4 ⟨rfl, ho4, hk4⟩)))
    have hk5 : KnownAt w5 km F := by
     have h1 : KnownAt (w4.alloc (.cells #[iv x, iv y] 36)) km F := hk4.below (belowA (belowR _) _)
     exact h1.grown hownA hgrow hkm
    have ho5 : OnlyAt w1 w5 km := by
     have h1 : OnlyAt w1 (w4.alloc (.cells #[iv x, iv y] 36)) km := (((HA.out.trans (OnlyAt.of_below (undrew0 hb3) km)).trans ho4)).trans (OnlyAt.of_below (belowA (belowR w4) _) km)
     exact h1.grown hownA hgrow (Nat.le_refl _)
    rw [← HFF.out] at hk5
    have HO5 := Lq hown5
    have HA5 := Lq ho5
    have HK5 := Lq hk5
    clear hown5 hgrow hownA hb3 ho4 hk4 ho5 hk5 HC1 HC2
    go_wp2_with fail
    exact ⟨⟨k + 1, _, by omega, by go_num, rfl, Lq (by rw [HSN.out, List.flatMap_append]; exact HO5.out), HA5, HK5⟩, by simp [intOf]; omega⟩
   ·obtain rfl : k = h.ps.length := by omega
    have hown := HO.out
    have hown' := hown
    obtain ⟨R, hR⟩ := ex (spansV h N h.ps.length)
    have hRl : R.length = h.ps.length := by rw [← hR]; exact spansV_len _ _ _
    rw [hR, ← hRl] at hown'
    obtain ⟨A5, cap5, rfl, _⟩ := own_rdN encSp_len hown'
    rw [hRl] at hown
    have HO5 := Lq hown
    clear hown hown' HO
    go_wp2_with fail
    rw [hPOST]
    refine bodyPost_ret (results_tmp2 rfl _ _ _) rfl ?_
    exact HFC.out _ _ ⟨HA.out.below HB1.out (by omega), A5, cap5, by rw [hRl]; rfl, HO5.out⟩
end Go.Proofs.YtmhjhbchokbonaaGreat
namespace Go.Proofs.YtmhjhbchokbonaaGreat
open Go.RowKit Go.Shelf
def Blk (w : World) (g : Nat) (t : TypeId) (cs : Array Value) : Prop := w.heap[g]? = some (.cells cs t (0, 0))
section
variable {w w' : World} {g : Nat} {t : TypeId} {cs : Array Value}
theorem Blk.lt (h : Blk w g t cs) : g < w.heap.size := by
 rcases Nat.lt_or_ge g w.heap.size with hlt | hge
 ·exact hlt
 ·unfold Blk at h; rw [Array.getElem?_eq_none hge] at h; cases h
theorem Blk.cell (h : Blk w g t cs) (i : Nat) : w.cell? ⟨g, i, none⟩ = cs[i]? := by
 unfold Blk at h; simp [World.cell?, h]
theorem Blk.frozen (h : Blk w g t cs) (i : Nat) : w.frozen? ⟨g, i, none⟩ = false := by
 unfold Blk at h
 simp [World.frozen?, h]
theorem Blk.new (w : World) (t : TypeId) (cs : Array Value) : Blk (w.alloc (.cells cs t)) w.heap.size t cs := by
 unfold Blk; exact World.alloc_heap_new w _
theorem Blk.alloc (h : Blk w g t cs) (o : Obj) : Blk (w.alloc o) g t cs := (Below.heap_alloc w o g h.lt).trans h
theorem Blk.set_ (h : Blk w g t cs) (i : Nat) (u : Value) : Blk (w.setCell ⟨g, i, none⟩ u) g t (cs.setIfInBounds i u) := by
 unfold Blk at h ⊢
 simp [World.setCell, Array.getElem?_modify, h]
theorem Blk.far (h : Blk w g t cs) {p : Addr} (hp : g ≠ p.block) (u : Value) : Blk (w.setCell p u) g t cs := (Below.heap_setCell w p u g hp).trans h
theorem Blk.same (h : Blk w g t cs) (hs : w'.heap[g]? = w.heap[g]?) : Blk w' g t cs := hs.trans h
theorem Blk.grown {row : Option Nat} (h : Blk w g t cs) (hb : w.grownBy w' row) (hg : some g ≠ row) : Blk w' g t cs := (hb.block g h.lt hg).trans h
end
theorem hdd (k : Nat) : (Fence.wide.depth.isSome = true → 1 ≤ k) := fun h => by cases h
theorem below_putObj {B : Nat} (X : World) {k : Nat} (hk : B ≤ k) (o : Obj) : Below B X (X.putObj k o) :=
 ⟨rfl, rfl, rfl, by simp [World.putObj], fun i hi => World.putObj_heap_other (by omega)⟩
theorem Blk.c {w : World} {g : Nat} {t : TypeId} {cs : Array Value} (h : Blk w g t cs) (i : Nat) {v : Value} (hv : cs[i]? = some v := by (simp only [List.getElem?_toArray, List.getElem?_cons_zero, List.getElem?_cons_succ]) <;> rfl) : w.cell? ⟨g, i, none⟩ = some v := (h.cell i).trans hv
end Go.Proofs.YtmhjhbchokbonaaGreat
