/- Words for memory: what a statement leaves that writes one old block alone; a copy with one element more. No program is named here. block.fresh: the error of the name of the last one of some parts. slices.Contains over joints. block.Check: the error of a hull. Sets of parts as numbers: what the operations on bits compute; when parts hang together. No program is named here. (*block.deck).hangs and .. -/
import Derived.Deep.AppendLies
import Derived.Deep.RegionHeld3
import Derived.Deep.DeepCutAuto
import Derived.Deep.DrawnRows
import Derived.Laws.EntriesVeiled
import Derived.Laws.BitsLemmas
import Derived.Laws.BitsAllLaws
import Derived.Laws.Shifts
import Derived.Laws.ShiftsVarLaws
import Derived.Test.YtmhjhbchokbonaaGreatM0
set_option maxRecDepth 1000000
set_option maxHeartbeats 16000000
namespace Go.Proofs.YtmhjhbchokbonaaGreat
open Go.RowKit
structure OnlyAt (W wx : World) (g : Nat) : Prop where
 os : wx.os = W.os
 tape : wx.tape = W.tape
 output : wx.output = W.output
 size : W.heap.size ≤ wx.heap.size
 block : ∀ k, k < W.heap.size → k ≠ g → wx.heap[k]? = W.heap[k]?
section
variable {a W wx : World} {g : Nat}
theorem OnlyAt.of_below (h : BW W wx) (g : Nat) : OnlyAt W wx g := ⟨h.os, h.tape, h.output, h.size, fun k hk _ => h.block k hk⟩
theorem OnlyAt.of_set (h : BW W wx) (g k : Nat) (u : Value) : OnlyAt W (wx.setCell ⟨g, k, none⟩ u) g :=
 ⟨h.os, h.tape, h.output, by simp only [World.size_setCell]; exact h.size, fun i hi hne => (Below.heap_setCell wx ⟨g, k, none⟩ u i hne).trans (h.block i hi)⟩
theorem OnlyAt.drew (h : OnlyAt W wx g) : OnlyAt W wx.drew g := ⟨h.os, h.tape, h.output, h.size, h.block⟩
theorem OnlyAt.set (h : OnlyAt W wx g) (k : Nat) (u : Value) : OnlyAt W (wx.setCell ⟨g, k, none⟩ u) g :=
 ⟨h.os, h.tape, h.output, by simp only [World.size_setCell]; exact h.size, fun i hi hne => (Below.heap_setCell wx ⟨g, k, none⟩ u i hne).trans (h.block i hi hne)⟩
theorem OnlyAt.cell (h : OnlyAt W wx g) {b o : Nat} {v : Value} (hc : W.cell? ⟨b, o, none⟩ = some v) (hne : b ≠ g) : wx.cell? ⟨b, o, none⟩ = some v :=
 (World.cell?_of_block (w := W) (a := ⟨b, o, none⟩) (h.block b (lt_of_cell hc) hne)).trans hc
theorem OnlyAt.frozen (h : OnlyAt W wx g) {b : Nat} (o : Nat) (hlt : b < W.heap.size) (hne : b ≠ g) : wx.frozen? ⟨b, o, none⟩ = W.frozen? ⟨b, o, none⟩ :=
 World.frozen?_of_block (w := W) (a := ⟨b, o, none⟩) (h.block b hlt hne)
theorem OnlyAt.below (h : OnlyAt W wx g) (hb : BW a W) (hg : a.heap.size ≤ g) : BW a wx :=
 ⟨h.os.trans hb.os, h.tape.trans hb.tape, h.output.trans hb.output, Nat.le_trans hb.size h.size, fun k hk => (h.block k (Nat.lt_of_lt_of_le hk hb.size) (by omega)).trans (hb.block k hk)⟩
theorem OnlyAt.rd1 {α : Type} {enc : α → Value} {B : Nat} {A : Option Addr} {xs : List α} (h : OnlyAt W wx g) (hR : Rd1 enc W B A xs) (hg : B ≤ g) : Rd1 enc wx B A xs := by
 intro i x hx
 obtain ⟨b, off, e, hb, hc⟩ := hR i x hx
 exact ⟨b, off, e, hb, h.cell hc (by omega)⟩
theorem OnlyAt.rdN {α : Type} {k : Nat} {enc : α → List Value} {B : Nat} {A : Option Addr} {xs : List α} (h : OnlyAt W wx g) (hR : RdN k enc W B A xs) (hg : B ≤ g) : RdN k enc wx B A xs := by
 intro i x hx
 obtain ⟨b, off, e, hb, hc⟩ := hR i x hx
 exact ⟨b, off, e, hb, fun j u hu => h.cell (hc j u hu) (by omega)⟩
theorem OnlyAt.own {base : Nat} {e : TypeId} {size n : Nat} {v : Value} {xs : List Value} (h : OnlyAt W wx g) (ho : W.ownsRow base e size v n xs) (hg : v.ownBlock ≠ some g) : wx.ownsRow base e size v n xs := by
 obtain ⟨h1, h2⟩ := ho
 refine ⟨h1, h2.imp id ?_⟩
 rintro ⟨g', cap, cur, hv, hb, hh, r⟩
 subst hv
 have hlt : g' < W.heap.size := by
  rcases Nat.lt_or_ge g' W.heap.size with hlt | hge
  ·exact hlt
  ·rw [Array.getElem?_eq_none hge] at hh; cases hh
 exact ⟨g', cap, cur, rfl, hb, (h.block g' hlt (fun e => hg (by rw [e]; rfl))).trans hh, r⟩
end
theorem belowDq {B : Nat} {a w : World} (h : Below B a w) : Below B a w.drew := ⟨h.os, h.tape, h.output, h.size, h.block⟩
theorem keepSet {w : World} {b o g k : Nat} {v u : Value} (h : w.cell? ⟨b, o, none⟩ = some v) (hne : b ≠ g) : (w.setCell ⟨g, k, none⟩ u).cell? ⟨b, o, none⟩ = some v :=
 (World.cell?_of_block (w := w) (a := ⟨b, o, none⟩) (Below.heap_setCell w ⟨g, k, none⟩ u b hne)).trans h
theorem own_rdP {α : Type} {enc : α → Value} {w : World} {base : Nat} {e : TypeId} {A : Option Addr} {n cap : Nat} {xs : List α} (h : w.ownsRow base e 1 (.slice A n cap) n (xs.map enc)) (hn : xs.length = n) : Rd1 enc w w.heap.size A xs := by
 subst hn
 obtain ⟨A', cap', e1, h2, _⟩ := own_rd1 h
 injection e1 with e1 _ _
 subst e1
 exact h2
/-! A copy with one element more: the empty literal, and the element's own block, in either order. -/
theorem add_bk (b : Nat) (j : Nat) : ((⟨b, 0, none⟩ : Addr).add j) = ⟨b, j, none⟩ := by
 unfold Addr.add
 rcases Nat.eq_zero_or_pos j with rfl | hj
 ·rfl
 ·rw [if_neg (by omega)]; simp
def taken (l : List Prt) (s : ByteArray) : Bool := l.any fun c => c.name.toList == s.toList
theorem taken_snoc (l : List Prt) (s : ByteArray) (k : Nat) (x : Prt) (hx : l[k]? = some x) : taken (l.take (k + 1)) s = (taken (l.take k) s || x.name.toList == s.toList) := by
 unfold taken
 obtain ⟨h, rfl⟩ := List.getElem?_eq_some_iff.1 hx
 rw [List.take_succ_eq_append_getElem h, List.any_append]; simp
theorem taken_yes {l : List Prt} {s : ByteArray} {k : Nat} {x : Prt} (hx : l[k]? = some x) (h : (x.name.toList == s.toList) = true) : taken l s = true := by
 unfold taken
 rw [List.any_eq_true]
 exact ⟨x, List.mem_of_getElem? hx, h⟩
theorem nameOf_any (name : ByteArray) (lo hi : Int) (w : World) :
  Calls Tryz.prog 124 #[.agg #[.string name, iv lo, iv hi]] w (Rt w (.string name)) := by
 go_enter Tryz.func124, Tryz.ntmps124
 go_wp2
 go_ret
 exact ⟨rfl, belowA (belowR _) _⟩
theorem undrew0 {w w' : World} (h : BW w.drew w') : BW w w' := ⟨h.os, h.tape, h.output, h.size, h.block⟩
theorem belowDr {B : Nat} {a w : World} (h : Below B a w) : Below B a w.drew := ⟨h.os, h.tape, h.output, h.size, h.block⟩
abbrev fv (n : Nat) : Value := .func (.func n) #[] #[]
theorem same_any (name s : ByteArray) (lo hi : Int) (gf gs : Nat) (w : World) (hf : w.cell? ⟨gf, 0, none⟩ = some (fv 124)) (hs : w.cell? ⟨gs, 0, none⟩ = some (.string s)) :
  Calls Tryz.prog 137 #[.agg #[.string name, iv lo, iv hi], pT gf 0, pT gs 0] w (Rt w (.bool (name.toList == s.toList))) := by
 obtain ⟨W1, hW1⟩ := ex (w.alloc (.cells #[.string name, iv lo, iv hi] 44))
 have hb0 : BW w W1 := by rw [← hW1]; exact belowA (belowR _) _
 have c0 : W1.cell? ⟨w.heap.size, 0, none⟩ = some (.string name) := by rw [← hW1]; clear hW1; go_simp
 have c1 : W1.cell? ⟨w.heap.size, 1, none⟩ = some (iv lo) := by rw [← hW1]; clear hW1; go_simp
 have c2 : W1.cell? ⟨w.heap.size, 2, none⟩ = some (iv hi) := by rw [← hW1]; clear hW1; go_simp
 have hf := keepC hb0 hf
 have hs := keepC hb0 hs
 have HC : Hid (∀ W, BW W1 W → W.cell? ⟨gf, 0, none⟩ = some (fv 124) ∧ W.cell? ⟨gs, 0, none⟩ = some (.string s) ∧ W.cell? ⟨w.heap.size, 0, none⟩ = some (.string name) ∧ W.cell? ⟨w.heap.size, 1, none⟩ = some (iv lo) ∧ W.cell? ⟨w.heap.size, 2, none⟩ = some (iv hi)) := Lq fun W h => ⟨keepC h hf, keepC h hs, keepC h c0, keepC h c1, keepC h c2⟩
 have HN := Lq (nameOf_any name lo hi W1.drew)
 have HB0 := Lq hb0
 clear hb0
 go_enter Tryz.func137, Tryz.ntmps137
 go_wp2
 clear hW1
 go_region_held3 (fun W => W.cell? ⟨gf, 0, none⟩ = some (fv 124) ∧ W.cell? ⟨gs, 0, none⟩ = some (.string s) ∧ W.cell? ⟨w.heap.size, 0, none⟩ = some (.string name) ∧ W.cell? ⟨w.heap.size, 1, none⟩ = some (iv lo) ∧ W.cell? ⟨w.heap.size, 2, none⟩ = some (iv hi)) (first | exact HC.out _ (undrew0 hb1) | exact HC.out _ (belowR _) | exact HC.out _ (belowN (belowR _) 1)) (((go_at_call 124; refine HN.out.mono ?_; rintro e w1 ⟨rfl, hb1⟩)))
 go_wp2
 go_ret
 exact ⟨rfl, belowT HB0.out (undrew0 hb1)⟩
def IdxPostB (b : Bool) (w : World) (e : Ending) (w' : World) : Prop := ∃ r : Int, e = .returned (iv r) ∧ decide (0 ≤ r) = b ∧ BW w w'
theorem indexPrt_any (A : Option Addr) (xs : List Prt) (B cap gf gs : Nat) (s : ByteArray) (w : World) (hm : xs.length ≤ maxLen)
  (hR : RdN 3 encPrt w B A xs) (hB : B ≤ w.heap.size) (hf : w.cell? ⟨gf, 0, none⟩ = some (fv 124)) (hs : w.cell? ⟨gs, 0, none⟩ = some (.string s)) :
  Calls Tryz.prog 153 #[.slice A xs.length cap, .func (.func 137) #[] #[pT gf 0, pT gs 0]] w (IdxPostB (taken xs s) w) := by
 unfold maxLen at hm
 go_enter Tryz.func153, Tryz.ntmps153
 go_wp2
 go_loopw [8] (fun i wr => ∃ k : Nat, k ≤ xs.length ∧ i = iv k ∧ taken (xs.take k) s = false ∧ BW w wr) (fun i _ => xs.length - (intOf i).toNat)
 case atStart => exact ⟨0, Nat.zero_le _, rfl, by simp [taken], belowR _⟩
 case round =>
  obtain ⟨k, hk, rfl, hn, hbw⟩ := hrel
  by_cases hlt : k < xs.length
  ·obtain ⟨x, hx⟩ : ∃ x, xs[k]? = some x := ⟨_, List.getElem?_eq_getElem hlt⟩
   obtain ⟨b, off, rfl, _, c0, c1, c2⟩ := prtAt (hR.below hbw hB) hx
   have HSA := Lq (fun lo hi name => same_any name s lo hi gf gs wr (keepC hbw hf) (keepC hbw hs))
   obtain ⟨name, lo, hi⟩ := x
   simp only at c0 c1 c2
   have Hx := Lq hx
   clear hx
   by_cases hp : (name.toList == s.toList) = true
   ·go_wp2_with (go_at_call 137; refine (HSA.out lo hi name).mono ?_; rintro e w1 ⟨rfl, hb1⟩)
    go_ret
    exact ⟨k, rfl, by rw [taken_yes Hx.out hp]; simp, belowT hbw hb1⟩
   ·have hp' : (name.toList == s.toList) = false := by simpa using hp
    go_wp2_with (go_at_call 137; refine (HSA.out lo hi name).mono ?_; rintro e w1 ⟨rfl, hb1⟩)
    go_roundw
    case rel => exact ⟨k + 1, by omega, by go_num, by rw [taken_snoc _ _ _ _ Hx.out, hn, hp']; rfl, belowT hbw hb1⟩
    case measure => simp [intOf]; omega
  ·go_wp2
   go_ret
   refine ⟨-1, rfl, ?_, hbw⟩
   rw [List.take_of_length_le (by omega)] at hn
   rw [hn]; rfl
theorem containsPrt_any (A : Option Addr) (xs : List Prt) (B cap gf gs : Nat) (s : ByteArray) (w : World) (hm : xs.length ≤ maxLen)
  (hR : RdN 3 encPrt w B A xs) (hB : B ≤ w.heap.size) (hf : w.cell? ⟨gf, 0, none⟩ = some (fv 124)) (hs : w.cell? ⟨gs, 0, none⟩ = some (.string s)) :
  Calls Tryz.prog 136 #[.slice A xs.length cap, .func (.func 137) #[] #[pT gf 0, pT gs 0]] w (Rt w (.bool (taken xs s))) := by
 have HI := Lq (indexPrt_any A xs B cap gf gs s w hm hR hB hf hs)
 go_enter Tryz.func136, Tryz.ntmps136
 go_wp2_with (go_at_call 153; refine HI.out.mono ?_; rintro e w' ⟨r, rfl, hr, hb⟩)
 go_ret
 exact ⟨by rw [← hr]; rfl, hb⟩
theorem taken_names (l : List Prt) (s : ByteArray) : taken l s = oneOf (l.map Prt.name) s := by
 unfold taken oneOf
 rw [List.any_map]; rfl
theorem reg55_2 {Q : Exit → Act → World → Prop} {V : World} {b off n cap gf : Nat} {name : ByteArray} {lo hi : Int} {z1 z2 z4 z6 z7 z8 z9 z10 z11 z12 z13 z14 z15 z16 z17 z18 z19 z20 z21 z22 z23 z24 z25 : Value} (h0 : (0 : Int) ≤ (n : Int)) (h1 : (n : Int) < (n : Int) + 1)
  (g0 : V.cell? ⟨gf, 0, none⟩ = some (fv 124)) (c0 : V.cell? ⟨b, off + n * 3, none⟩ = some (.string name)) (c1 : V.cell? ⟨b, off + n * 3 + 1, none⟩ = some (iv lo)) (c2 : V.cell? ⟨b, off + n * 3 + 2, none⟩ = some (iv hi))
  (hQ : ∀ u10 u11 u12 u13 u14 u15 gs wx, V.heap.size ≤ gs → wx.cell? ⟨gs, 0, none⟩ = some (.string name) → BW V wx → Q .normal ⟨#[.slice (some ⟨b, off, none⟩) (n + 1) cap, z1, z2, pT gf 0, z4, iv n, pT gs 0, z7, z8, z9, u10, u11, u12, u13, u14, u15, z16, z17, z18, z19, z20, z21, z22, z23, z24, z25], []⟩ wx) :
  (regionOf Tryz.f123 2).wp Tryz.prog Q ⟨#[.slice (some ⟨b, off, none⟩) (n + 1) cap, z1, z2, pT gf 0, z4, iv n, z6, z7, z8, z9, z10, z11, z12, z13, z14, z15, z16, z17, z18, z19, z20, z21, z22, z23, z24, z25], []⟩ V := by
 have HC : Hid (∀ W, BW V W → W.cell? ⟨gf, 0, none⟩ = some (fv 124) ∧ W.cell? ⟨b, off + n * 3, none⟩ = some (.string name) ∧ W.cell? ⟨b, off + n * 3 + 1, none⟩ = some (iv lo) ∧ W.cell? ⟨b, off + n * 3 + 2, none⟩ = some (iv hi)) := Lq fun W h => ⟨keepC h g0, keepC h c0, keepC h c1, keepC h c2⟩
 have HN : Hid (∀ W : World, Calls Tryz.prog 124 #[.agg #[.string name, iv lo, iv hi]] W (Rt W (.string name))) := Lq (nameOf_any name lo hi)
 have HQ := Lq hQ
 have hl := lt_of_cell g0
 have hb := lt_of_cell c0
 have HE : Hid (BW V (V.alloc (.cells #[.string ⟨#[]⟩] 9)).drew) := Lq (belowDr (belowA (belowR V) _))
 have hz : (V.alloc (.cells #[.string ⟨#[]⟩] 9)).drew.cell? ⟨V.heap.size, 0, none⟩ = some (.string ⟨#[]⟩) := by go_simp
 have hzf : (V.alloc (.cells #[.string ⟨#[]⟩] 9)).drew.frozen? ⟨V.heap.size, 0, none⟩ = false := by go_simp
 have HZ := Lq (And.intro hz hzf)
 clear hQ hz hzf g0 c0 c1 c2
 conv => arg 2; whnf
 go_region_held3 (fun W => W.cell? ⟨gf, 0, none⟩ = some (fv 124) ∧ W.cell? ⟨b, off + n * 3, none⟩ = some (.string name) ∧ W.cell? ⟨b, off + n * 3 + 1, none⟩ = some (iv lo) ∧ W.cell? ⟨b, off + n * 3 + 2, none⟩ = some (iv hi)) (first | exact HC.out _ (belowS hB1 (Nat.le_refl _) _) | exact HC.out _ (belowA (undrew0 hb1) _) | exact HC.out _ (undrew0 hb1) | exact HC.out _ hB1 | exact HC.out _ HE.out | exact HC.out _ (belowDr (belowR _))) ((first | ((go_at_call 124; with_reducible refine (HN.out V.drew).mono ?_); rintro e w1 ⟨rfl, hb1⟩) | ((go_at_call 124; with_reducible refine (HN.out (V.alloc (.cells #[.string ⟨#[]⟩] 9)).drew).mono ?_); rintro e w1 ⟨rfl, hb2⟩; have hB1 := belowT HE.out hb2; have hz := keepC hb2 HZ.out.1; have hzf := (keepF hb2 HZ.out.1).trans HZ.out.2)))
 ·exact HQ.out _ _ _ _ _ _ w1.heap.size _ (by have := hb1.size; simpa using this) (by go_simp) (belowA (undrew0 hb1) _)
 ·exact HQ.out _ _ _ _ _ _ V.heap.size _ (Nat.le_refl _) (by go_simp) (belowS hB1 (Nat.le_refl _) _)
theorem freshOne_any (A : Option Addr) (l : List Prt) (n : Nat) (c : Prt) (B cap : Nat) (w : World) (hm : n + 1 ≤ cap) (hcm : cap ≤ maxLen) (hn : l[n]? = some c) (hs : c.name.size ≤ maxLen) (hR : RdN 3 encPrt w B A l) (hB : B ≤ w.heap.size) :
  Calls Tryz.prog 123 #[.slice A (n + 1) cap, fv 124] w fun e w' => e = .returned (iv (freshE ((l.take n).map Prt.name) c.name)) ∧ BW w w' := by
 have hm' := hm
 unfold maxLen at hcm
 have hnl : n < l.length := (List.getElem?_eq_some_iff.1 hn).1
 obtain ⟨b, off, rfl, hlt, c0, c1, c2⟩ := prtAt hR hn
 have htl : (l.take n).length = n := by rw [List.length_take]; omega
 obtain ⟨name, lo, hi⟩ := c
 simp only at c0 c1 c2 hs ⊢
 obtain ⟨W1, hW1⟩ := ex (w.alloc (.cells #[fv 124] 196))
 have hb0 : BW w W1 := by rw [← hW1]; exact belowA (belowR _) _
 have g0 : W1.cell? ⟨w.heap.size, 0, none⟩ = some (fv 124) := by rw [← hW1]; clear hW1; go_simp
 have c0 := keepC hb0 c0
 have c1 := keepC hb0 c1
 have c2 := keepC hb0 c2
 have hz1 := lt_of_cell g0
 have HC : Hid (∀ W, BW W1 W → W.cell? ⟨w.heap.size, 0, none⟩ = some (fv 124) ∧ W.cell? ⟨b, off + n * 3, none⟩ = some (.string name) ∧ W.cell? ⟨b, off + n * 3 + 1, none⟩ = some (iv lo) ∧ W.cell? ⟨b, off + n * 3 + 2, none⟩ = some (iv hi)) := Lq fun W h => ⟨keepC h g0, keepC h c0, keepC h c1, keepC h c2⟩
 have HCL : Hid (∀ (W : World) (gs : Nat), BW W1 W → W.cell? ⟨gs, 0, none⟩ = some (.string name) → Calls Tryz.prog 136 #[.slice (some ⟨b, off, none⟩) n cap, .func (.func 137) #[] #[pT w.heap.size 0, pT gs 0]] W (Rt W (.bool (taken (l.take n) name)))) := Lq fun W gs hb hc => by
  have := containsPrt_any (some ⟨b, off, none⟩) (l.take n) B cap w.heap.size gs name W (by rw [htl]; unfold maxLen; omega) (((hR.below hb0 hB).take n).below hb (by have := hb0.size; omega)) (by have := hb0.size; have := hb.size; omega) (keepC hb g0) hc
  rwa [htl] at this
 have HNM : Hid (∀ W : World, Calls Tryz.prog 97 #[.string name] W (Rt W (.bool (nameB name)))) := Lq fun W => name_any name W hs
 have hr : freshE ((l.take n).map Prt.name) name = if nameB name then (if taken (l.take n) name then 5 else 0) else 6 := by unfold freshE; rw [taken_names]
 have HRR := Lq hr
 have HB0 := Lq hb0
 have hnz : (n : Int) < (n : Int) + 1 := by omega
 have hn0 : (0 : Int) ≤ (n : Int) := by omega
 clear hb0 hR htl HC hr
 cases h1 : nameB name
 all_goals
  have HN1 := Lq h1
  clear h1
  go_enter Tryz.func123, Tryz.ntmps123
  go_upto_region 2 with fail
  refine reg55_2 (gf := w.heap.size) hn0 hnz g0 c0 c1 c2 ?_
  intro u10 u11 u12 u13 u14 u15 gs w1 hgs hs1 hb1
  have HB1 := Lq hb1
  have hz2 := lt_of_cell hs1
  clear hb1 hW1
  go_wp2_with fail
  refine (HNM.out _).mono ?_
  rintro e w2 ⟨he, hb2⟩
  rw [HN1.out] at he
  subst he
  have HB2 := Lq (belowT HB1.out hb2)
  have hs2 := keepC hb2 hs1
  clear hb2 hs1
 ·go_wp2
  go_ret
  exact ⟨by rw [HRR.out, HN1.out]; rfl, belowT HB0.out HB2.out⟩
 ·cases h2 : taken (l.take n) name
  all_goals
   have HT := Lq h2
   clear h2
   go_wp2_with fail
   refine (HCL.out w2 gs HB2.out hs2).mono ?_
   rintro e w3 ⟨he, hb3⟩
   rw [HT.out] at he
   subst he
   have HB3 := Lq (belowT HB2.out hb3)
   clear hb3
   go_wp2
   go_ret
   exact ⟨by rw [HRR.out, HN1.out, HT.out]; rfl, belowT HB0.out HB3.out⟩
theorem run_eqJ (d : Nat) (a b x y : Int) (w : World) : (Op.equalIn (d + 2) 45 (.agg #[iv a, iv b]) (.agg #[iv x, iv y])).run Tryz.prog w = .ok (a == x && b == y) w := by
 have h1 : ∀ w, (Op.equalIn (d + 1) 3 (iv a) (iv x)).run Tryz.prog w = .ok (a == x) w := fun w => run_equalIn_int w d 3 .i64 .i64 a x Tryz.underlying3
 have h2 : ∀ w, (Op.equalIn (d + 1) 3 (iv b) (iv y)).run Tryz.prog w = .ok (b == y) w := fun w => run_equalIn_int w d 3 .i64 .i64 b y Tryz.underlying3
 rw [Op.equalIn]
 simp only [Sem.run_bind, run_underlying Tryz.underlying45, Result.andThen_ok]
 simp only [Tryz.sizeOf3, Std.Legacy.Range.forIn_eq_forIn_range', Std.Legacy.Range.size]
 simp [List.range', h1, h2, go_sem]
 by_cases h : a = x <;> by_cases h' : b = y <;> simp [h, h']
def eqJ (x y : Int × Int) : Bool := x.1 == y.1 && x.2 == y.2
def hasJ (l : List (Int × Int)) (j : Int × Int) : Bool := l.any fun x => eqJ j x
theorem hasJ_snoc (l : List (Int × Int)) (j : Int × Int) (k : Nat) (x : Int × Int) (hx : l[k]? = some x) : hasJ (l.take (k + 1)) j = (hasJ (l.take k) j || eqJ j x) := by
 unfold hasJ
 obtain ⟨h, rfl⟩ := List.getElem?_eq_some_iff.1 hx
 rw [List.take_succ_eq_append_getElem h, List.any_append]; simp
theorem hasJ_yes {l : List (Int × Int)} {j : Int × Int} {k : Nat} {x : Int × Int} (hx : l[k]? = some x) (h : eqJ j x = true) : hasJ l j = true := by
 unfold hasJ
 rw [List.any_eq_true]
 exact ⟨x, List.mem_of_getElem? hx, h⟩
theorem indexJ_any (A : Option Addr) (xs : List (Int × Int)) (B cap : Nat) (a b : Int) (w : World) (hm : xs.length ≤ maxLen)
  (hR : RdN 2 encSp w B A xs) (hB : B ≤ w.heap.size) :
  Calls Tryz.prog 138 #[.slice A xs.length cap, .agg #[iv a, iv b]] w (IdxPostB (hasJ xs (a, b)) w) := by
 unfold maxLen at hm
 obtain ⟨W1, hW1⟩ := ex (w.alloc (.cells #[iv a, iv b] 45))
 have hb0 : BW w W1 := by rw [← hW1]; exact belowA (belowR _) _
 have c0 : W1.cell? ⟨w.heap.size, 0, none⟩ = some (iv a) := by rw [← hW1]; clear hW1; go_simp
 have c1 : W1.cell? ⟨w.heap.size, 1, none⟩ = some (iv b) := by rw [← hW1]; clear hW1; go_simp
 have HB0 := Lq hb0
 have HR := Lq (hR.below hb0 hB)
 have hz := hb0.size
 clear hb0 hR
 go_enter Tryz.func138, Tryz.ntmps138
 go_wp2
 clear hW1
 go_loopw [8] (fun i wr => ∃ k : Nat, k ≤ xs.length ∧ i = iv k ∧ hasJ (xs.take k) (a, b) = false ∧ Hid (BW W1 wr)) (fun i _ => xs.length - (intOf i).toNat)
 case atStart => exact ⟨0, Nat.zero_le _, rfl, by simp [hasJ], Lq (belowR _)⟩
 case round =>
  obtain ⟨k, hk, rfl, hn, HBW⟩ := hrel
  have HN := Lq hn
  clear hn
  by_cases hlt : k < xs.length
  ·obtain ⟨x, hx⟩ : ∃ x, xs[k]? = some x := ⟨_, List.getElem?_eq_getElem hlt⟩
   obtain ⟨x0, x1⟩ := x
   obtain ⟨bb, off, rfl, _, d0, d1⟩ := spAt (HR.out.below HBW.out (by omega)) hx
   simp only at d0 d1
   have c0 := keepC HBW.out c0
   have c1 := keepC HBW.out c1
   have Hx := Lq hx
   have hkz : (k : Int) < (xs.length : Int) := by omega
   have hk0 : (0 : Int) ≤ (k : Int) := by omega
   clear hx
   by_cases hp : a = x0 ∧ b = x1
   ·obtain ⟨rfl, rfl⟩ := hp
    have hEQ : ∀ w, (Op.equalIn 10000 45 (.agg #[iv a, iv b]) (.agg #[iv a, iv b])).run Tryz.prog w = .ok true w := fun w => by have := run_eqJ 9998 a b a b w; simpa using this
    go_wp2
    go_quiet (fail)
    go_wp2
    go_ret
    exact ⟨k, rfl, by rw [hasJ_yes Hx.out (by simp [eqJ])]; simp, belowT HB0.out (belowN HBW.out _)⟩
   ·have hp' : eqJ (a, b) (x0, x1) = false := by
     unfold eqJ
     rw [Bool.and_eq_false_iff]
     simp only [beq_eq_false_iff_ne]
     by_cases h : a = x0
     ·exact .inr fun h2 => hp ⟨h, h2⟩
     ·exact .inl h
    have HP := Lq hp'
    have hEQ : ∀ w, (Op.equalIn 10000 45 (.agg #[iv a, iv b]) (.agg #[iv x0, iv x1])).run Tryz.prog w = .ok false w := fun w => by have := run_eqJ 9998 a b x0 x1 w; rw [this]; exact congrArg (fun r => Result.ok r w) hp'
    clear hp hp'
    go_wp2
    go_quiet (fail)
    go_wp2
    go_roundw
    case rel => exact ⟨k + 1, by omega, by go_num, by rw [hasJ_snoc _ _ _ _ Hx.out, HN.out, HP.out]; rfl, Lq (belowN HBW.out _)⟩
    case measure => simp [intOf]; omega
  ·go_wp2
   go_ret
   refine ⟨-1, rfl, ?_, belowT HB0.out HBW.out⟩
   have := HN.out
   rw [List.take_of_length_le (by omega)] at this
   rw [this]; rfl
theorem containsJ_any (A : Option Addr) (xs : List (Int × Int)) (B cap : Nat) (a b : Int) (w : World) (hm : xs.length ≤ maxLen)
  (hR : RdN 2 encSp w B A xs) (hB : B ≤ w.heap.size) :
  Calls Tryz.prog 125 #[.slice A xs.length cap, .agg #[iv a, iv b]] w (Rt w (.bool (hasJ xs (a, b)))) := by
 obtain ⟨W1, hW1⟩ := ex (w.alloc (.cells #[iv a, iv b] 45))
 have hb0 : BW w W1 := by rw [← hW1]; exact belowA (belowR _) _
 have c0 : W1.cell? ⟨w.heap.size, 0, none⟩ = some (iv a) := by rw [← hW1]; clear hW1; go_simp
 have c1 : W1.cell? ⟨w.heap.size, 1, none⟩ = some (iv b) := by rw [← hW1]; clear hW1; go_simp
 have HI := Lq (indexJ_any A xs B cap a b W1 hm (hR.below hb0 hB) (Nat.le_trans hB hb0.size))
 have HB0 := Lq hb0
 clear hb0
 go_enter Tryz.func125, Tryz.ntmps125
 go_wp2_with fail
 refine HI.out.mono ?_
 rintro e w1 ⟨r, rfl, hr, hb⟩
 clear hW1
 go_wp2
 go_ret
 exact ⟨by rw [← hr]; rfl, belowT HB0.out hb⟩
structure Hul where
 ps : List Prt
 js : List (Int × Int)
 slo : Int
 shi : Int
 winch : Int
abbrev hv (h : Hul) (A : Option Addr) (cap : Nat) (J : Option Addr) (capJ : Nat) : Value := .agg #[.slice A h.ps.length cap, .slice J h.js.length capJ, iv h.slo, iv h.shi, iv h.winch]
structure HulRd (w : World) (B : Nat) (h : Hul) (A : Option Addr) (cap : Nat) (J : Option Addr) (capJ : Nat) : Prop where
 ps : RdN 3 encPrt w B A h.ps
 js : RdN 2 encSp w B J h.js
 pl : h.ps.length ≤ cap
 pm : cap ≤ maxLen
 jl : h.js.length ≤ capJ
 jm : capJ ≤ maxLen
 nm : ∀ p ∈ h.ps, p.name.size ≤ maxLen
theorem HulRd.below {w w' : World} {B B' : Nat} {h : Hul} {A J : Option Addr} {cap capJ : Nat} (H : HulRd w B h A cap J capJ) (hb : Below B' w w') (hB : B ≤ B') : HulRd w' B h A cap J capJ :=
 ⟨H.ps.below hb hB, H.js.below hb hB, H.pl, H.pm, H.jl, H.jm, H.nm⟩
def partE (ps : List Prt) (i : Nat) : Int := match ps[i]? with | some c => if freshE ((ps.take i).map Prt.name) c.name = 0 then rangeE 0 100000 c.lo c.hi else freshE ((ps.take i).map Prt.name) c.name | none => 0
def jointE (n : Nat) (js : List (Int × Int)) (i : Nat) : Int := match js[i]? with | some j => if inB 0 ((n : Int) - 1) j.1 && inB 0 ((n : Int) - 1) j.2 then (if j.2 ≤ j.1 then 2 else if hasJ (js.take i) j then 5 else 0) else 4 | none => 0
def listsE (h : Hul) : Int × Int × Int :=
 match firstBad (partE h.ps) h.ps.length with
 | some (i, e) => (2, i, e)
 | none => match firstBad (jointE h.ps.length h.js) h.js.length with
  | some (i, e) => (3, i, e)
  | none => (0, 0, 0)
def checkE (h : Hul) : Int × Int × Int :=
 if inB 1 8 (h.ps.length : Int) && decide (h.js.length ≤ 12) then (if inB 1 2000 h.slo && inB 1 2000 h.shi && inB 1 10000000 h.winch then (if h.shi < h.slo then (1, 0, 2) else listsE h) else (1, 0, 7)) else (1, 0, 3)
def ret3 (r : Int × Int × Int) : Value := .tuple #[iv r.1, iv r.2.1, iv r.2.2]
theorem out_oneB {lo hi x : Int} {b : Bool} (h : inB lo hi x = b) (g : Nat) (w : World) (hc : w.cell? ⟨g, 0, none⟩ = some (iv x)) : Calls Tryz.prog 116 #[iv lo, iv hi, .slice (some ⟨g, 0, none⟩) 1 1] w (Rt w (.bool (!b))) := by
 subst h
 exact out_one lo hi x g w hc (lt_of_cell hc)
theorem out_twoB {lo hi x y : Int} {b : Bool} (h : (inB lo hi x && inB lo hi y) = b) (g : Nat) (w : World) (hc : w.cell? ⟨g, 0, none⟩ = some (iv x)) (hd : w.cell? ⟨g, 1, none⟩ = some (iv y)) : Calls Tryz.prog 116 #[iv lo, iv hi, .slice (some ⟨g, 0, none⟩) 2 2] w (Rt w (.bool (!b))) := by
 subst h
 exact out_two lo hi x y g w hc hd (lt_of_cell hc)
theorem check_any (h : Hul) (A J : Option Addr) (B cap capJ : Nat) (w : World) (hH : HulRd w B h A cap J capJ) (hB : B ≤ w.heap.size) :
  Calls Tryz.prog 88 #[hv h A cap J capJ] w (Rt w (ret3 (checkE h))) := by
 obtain ⟨W1, hW1⟩ := ex (w.alloc (.cells #[.slice A h.ps.length cap, .slice J h.js.length capJ, iv h.slo, iv h.shi, iv h.winch] 40))
 have hb0 : BW w W1 := by rw [← hW1]; exact belowA (belowR _) _
 have p0 : W1.cell? ⟨w.heap.size, 0, none⟩ = some (.slice A h.ps.length cap) := by rw [← hW1]; clear hW1; go_simp
 have p1 : W1.cell? ⟨w.heap.size, 1, none⟩ = some (.slice J h.js.length capJ) := by rw [← hW1]; clear hW1; go_simp
 have p2 : W1.cell? ⟨w.heap.size, 2, none⟩ = some (iv h.slo) := by rw [← hW1]; clear hW1; go_simp
 have p3 : W1.cell? ⟨w.heap.size, 3, none⟩ = some (iv h.shi) := by rw [← hW1]; clear hW1; go_simp
 have p4 : W1.cell? ⟨w.heap.size, 4, none⟩ = some (iv h.winch) := by rw [← hW1]; clear hW1; go_simp
 have HC : Hid (∀ W, BW W1 W → W.cell? ⟨w.heap.size, 0, none⟩ = some (.slice A h.ps.length cap) ∧ W.cell? ⟨w.heap.size, 1, none⟩ = some (.slice J h.js.length capJ) ∧ W.cell? ⟨w.heap.size, 2, none⟩ = some (iv h.slo) ∧ W.cell? ⟨w.heap.size, 3, none⟩ = some (iv h.shi) ∧ W.cell? ⟨w.heap.size, 4, none⟩ = some (iv h.winch)) := Lq fun W hb => ⟨keepC hb p0, keepC hb p1, keepC hb p2, keepC hb p3, keepC hb p4⟩
 have hz1 := lt_of_cell p0
 have HB0 := Lq hb0
 have HH := Lq (hH.below hb0 hB)
 have hpm := hH.pm
 have hjm := hH.jm
 have hpl := hH.pl
 have hjl := hH.jl
 unfold maxLen at hpm hjm
 obtain ⟨R, hR⟩ := ex (checkE h)
 rw [hR]
 have HR := Lq hR
 clear hb0 hH hR
 obtain ⟨ps, js, slo, shi, winch⟩ := h
 simp only at *
 have hfin : ∀ (r : Int × Int × Int), R = r → ret3 R = .tuple #[iv r.1, iv r.2.1, iv r.2.2] := fun r h => by rw [h]; rfl
 have HFIN := Lq hfin
 clear hfin
 cases h1 : inB 1 8 (ps.length : Int)
 ·have hr : R = (1, 0, 3) := by rw [← HR.out]; simp [checkE, h1]
  have HRR := Lq hr
  clear hr
  go_enter Tryz.func88, Tryz.ntmps88
  go_wp2_with fail
  refine (out_oneB h1 _ _ (by go_simp)).mono ?_
  rintro e w2 ⟨rfl, hb2⟩
  have HB2 := Lq (belowT (belowA (belowR _) _) hb2)
  clear hb2 hW1 p0 p1 p2 p3 p4
  obtain ⟨p0, p1, p2, p3, p4⟩ := HC.out _ HB2.out
  go_wp2
  go_ret3
  exact ⟨by rw [HFIN.out _ HRR.out]; rfl, belowT HB0.out HB2.out⟩
 have hn8 := inB_t h1
 by_cases h2 : js.length ≤ 12
 case neg =>
  have hr : R = (1, 0, 3) := by rw [← HR.out]; simp [checkE, h2]
  have HRR := Lq hr
  have hd : (12 : Int) < (js.length : Int) := by omega
  clear hr
  go_enter Tryz.func88, Tryz.ntmps88
  go_wp2_with fail
  refine (out_oneB h1 _ _ (by go_simp)).mono ?_
  rintro e w2 ⟨rfl, hb2⟩
  have HB2 := Lq (belowT (belowA (belowR _) _) hb2)
  clear hb2 hW1 p0 p1 p2 p3 p4
  obtain ⟨p0, p1, p2, p3, p4⟩ := HC.out _ HB2.out
  go_wp2
  go_ret3
  exact ⟨by rw [HFIN.out _ HRR.out]; rfl, belowT HB0.out HB2.out⟩
 have hd : ¬ (12 : Int) < (js.length : Int) := by omega
 cases h3 : (inB 1 2000 slo && inB 1 2000 shi)
 ·have hr : R = (1, 0, 7) := by rw [← HR.out]; simp [checkE, h1, h2, h3]
  have HRR := Lq hr
  clear hr
  go_enter Tryz.func88, Tryz.ntmps88
  go_wp2_with fail
  refine (out_oneB h1 _ _ (by go_simp)).mono ?_
  rintro e w2 ⟨rfl, hb2⟩
  have HB2 := Lq (belowT (belowA (belowR _) _) hb2)
  clear hb2 hW1 p0 p1 p2 p3 p4
  obtain ⟨p0, p1, p2, p3, p4⟩ := HC.out _ HB2.out
  go_wp2_with fail
  refine (out_twoB h3 _ _ (by go_simp) (by go_simp)).mono ?_
  rintro e w3 ⟨rfl, hb3⟩
  have HB3 := Lq (belowT (belowA HB2.out _) hb3)
  clear hb3 p0 p1 p2 p3 p4
  obtain ⟨p0, p1, p2, p3, p4⟩ := HC.out _ HB3.out
  go_wp2
  go_ret3
  exact ⟨by rw [HFIN.out _ HRR.out]; rfl, belowT HB0.out HB3.out⟩
 cases h4 : inB 1 10000000 winch
 ·have hr : R = (1, 0, 7) := by rw [← HR.out]; simp [checkE, h1, h2, h3, h4]
  have HRR := Lq hr
  clear hr
  go_enter Tryz.func88, Tryz.ntmps88
  go_wp2_with fail
  refine (out_oneB h1 _ _ (by go_simp)).mono ?_
  rintro e w2 ⟨rfl, hb2⟩
  have HB2 := Lq (belowT (belowA (belowR _) _) hb2)
  clear hb2 hW1 p0 p1 p2 p3 p4
  obtain ⟨p0, p1, p2, p3, p4⟩ := HC.out _ HB2.out
  go_wp2_with fail
  refine (out_twoB h3 _ _ (by go_simp) (by go_simp)).mono ?_
  rintro e w3 ⟨rfl, hb3⟩
  have HB3 := Lq (belowT (belowA HB2.out _) hb3)
  clear hb3 p0 p1 p2 p3 p4
  obtain ⟨p0, p1, p2, p3, p4⟩ := HC.out _ HB3.out
  go_wp2_with fail
  refine (out_oneB h4 _ _ (by go_simp)).mono ?_
  rintro e w4 ⟨rfl, hb4⟩
  have HB4 := Lq (belowT (belowA HB3.out _) hb4)
  clear hb4 p0 p1 p2 p3 p4
  obtain ⟨p0, p1, p2, p3, p4⟩ := HC.out _ HB4.out
  go_wp2
  go_ret3
  exact ⟨by rw [HFIN.out _ HRR.out]; rfl, belowT HB0.out HB4.out⟩
 by_cases h5 : shi < slo
 ·have hr : R = (1, 0, 2) := by rw [← HR.out]; simp [checkE, h1, h2, h3, h4, h5]
  have HRR := Lq hr
  clear hr
  go_enter Tryz.func88, Tryz.ntmps88
  go_wp2_with fail
  refine (out_oneB h1 _ _ (by go_simp)).mono ?_
  rintro e w2 ⟨rfl, hb2⟩
  have HB2 := Lq (belowT (belowA (belowR _) _) hb2)
  clear hb2 hW1 p0 p1 p2 p3 p4
  obtain ⟨p0, p1, p2, p3, p4⟩ := HC.out _ HB2.out
  go_wp2_with fail
  refine (out_twoB h3 _ _ (by go_simp) (by go_simp)).mono ?_
  rintro e w3 ⟨rfl, hb3⟩
  have HB3 := Lq (belowT (belowA HB2.out _) hb3)
  clear hb3 p0 p1 p2 p3 p4
  obtain ⟨p0, p1, p2, p3, p4⟩ := HC.out _ HB3.out
  go_wp2_with fail
  refine (out_oneB h4 _ _ (by go_simp)).mono ?_
  rintro e w4 ⟨rfl, hb4⟩
  have HB4 := Lq (belowT (belowA HB3.out _) hb4)
  clear hb4 p0 p1 p2 p3 p4
  obtain ⟨p0, p1, p2, p3, p4⟩ := HC.out _ HB4.out
  go_wp2
  go_ret3
  exact ⟨by rw [HFIN.out _ HRR.out]; rfl, belowT HB0.out HB4.out⟩
 have hr : R = listsE ⟨ps, js, slo, shi, winch⟩ := by rw [← HR.out]; simp [checkE, h1, h2, h3, h4, h5]
 have HRR := Lq hr
 clear hr
 go_enter Tryz.func88, Tryz.ntmps88
 go_wp2_with fail
 refine (out_oneB h1 _ _ (by go_simp)).mono ?_
 rintro e w2 ⟨rfl, hb2⟩
 have HB2 := Lq (belowT (belowA (belowR _) _) hb2)
 clear hb2 hW1 p0 p1 p2 p3 p4
 obtain ⟨p0, p1, p2, p3, p4⟩ := HC.out _ HB2.out
 go_wp2_with fail
 refine (out_twoB h3 _ _ (by go_simp) (by go_simp)).mono ?_
 rintro e w3 ⟨rfl, hb3⟩
 have HB3 := Lq (belowT (belowA HB2.out _) hb3)
 clear hb3 p0 p1 p2 p3 p4
 obtain ⟨p0, p1, p2, p3, p4⟩ := HC.out _ HB3.out
 go_wp2_with fail
 refine (out_oneB h4 _ _ (by go_simp)).mono ?_
 rintro e w4 ⟨rfl, hb4⟩
 have HB4 := Lq (belowT (belowA HB3.out _) hb4)
 clear hb4 p0 p1 p2 p3 p4 HB2 HB3 hd
 obtain ⟨p0, p1, p2, p3, p4⟩ := HC.out _ HB4.out
 go_wp2
 clear p0 p1 p2 p3 p4 h1 h2 h3 h4 h5
 go_loopw [47] (fun i wr => ∃ k : Nat, k ≤ ps.length ∧ i = iv k ∧ Hid (firstBad (partE ps) k = none) ∧ Hid (BW W1 wr)) (fun i _ => ps.length - (intOf i).toNat)
 case atStart => exact ⟨0, Nat.zero_le _, rfl, Lq rfl, HB4⟩
 case round =>
  clear HB4
  obtain ⟨k, hk, rfl, HN, HBW⟩ := hrel
  obtain ⟨p0, p1, p2, p3, p4⟩ := HC.out _ HBW.out
  have hzr : w.heap.size < wr.heap.size := lt_of_cell p0
  by_cases hlt : k < ps.length
  ·obtain ⟨c, hx⟩ : ∃ c, ps[k]? = some c := ⟨_, List.getElem?_eq_getElem hlt⟩
   have hRw := (HH.out.below HBW.out (by omega)).ps
   have hfr := fun W (hb : BW wr W) => freshOne_any A ps k c B cap W (by omega) HH.out.pm hx (HH.out.nm c (List.mem_of_getElem? hx)) (hRw.below hb (by have := HBW.out.size; omega)) (by have := HBW.out.size; have := hb.size; omega)
   have hpe : partE ps k = if freshE ((ps.take k).map Prt.name) c.name = 0 then rangeE 0 100000 c.lo c.hi else freshE ((ps.take k).map Prt.name) c.name := by simp [partE, hx]
   obtain ⟨bb, off, rfl, _, d0, d1, d2⟩ := prtAt hRw hx
   obtain ⟨name, lo, hi⟩ := c
   simp only at d0 d1 d2 hfr hpe
   obtain ⟨F, hF⟩ := ex (freshE ((ps.take k).map Prt.name) name)
   rw [hF] at hfr hpe
   have HFR := Lq hfr
   have HPE := Lq hpe
   have hkz : (k : Int) < (ps.length : Int) := by omega
   have hkc : (k : Int) + 1 ≤ (cap : Int) := by omega
   have hk0 : (0 : Int) ≤ (k : Int) := by omega
   clear hfr hpe hF hx hRw
   by_cases hF0 : F = 0
   case neg =>
    have hne : (F == 0) = false := by simpa using hF0
    have hne2 : (F != 0) = true := by simpa using hF0
    go_wp2_with fail
    refine (HFR.out _ (belowA (belowR _) _)).mono ?_
    rintro e w5 ⟨rfl, hb5⟩
    have HB5 := Lq (belowT HBW.out (belowT (belowA (belowR _) _) hb5))
    clear hb5 p0 p1 p2 p3 p4 d0 d1 d2
    go_wp2
    go_ret3
    exact ⟨by rw [HFIN.out (2, k, F) (by rw [HRR.out]; unfold listsE; rw [firstBad_at HN.out (by rw [HPE.out, if_neg hF0]; exact hF0) hlt, HPE.out, if_neg hF0])]; rfl, belowT HB0.out HB5.out⟩
   subst hF0
   obtain ⟨E, hE⟩ := ex (rangeE 0 100000 lo hi)
   have hsp := fun W => spanned_any 0 100000 lo hi W
   rw [hE] at hsp
   have HSP := Lq hsp
   have HPE2 : Hid (partE ps k = E) := Lq (by rw [HPE.out, if_pos rfl]; exact hE)
   clear hsp hE HPE
   go_wp2_with fail
   refine (HFR.out _ (belowA (belowR _) _)).mono ?_
   rintro e w5 ⟨rfl, hb5⟩
   have HB5 := Lq (belowT HBW.out (belowT (belowA (belowR _) _) hb5))
   have g0 : w5.cell? ⟨wr.heap.size, 0, none⟩ = some (.string name) := keepC hb5 (by go_simp)
   have g1 : w5.cell? ⟨wr.heap.size, 1, none⟩ = some (iv lo) := keepC hb5 (by go_simp)
   have g2 : w5.cell? ⟨wr.heap.size, 2, none⟩ = some (iv hi) := keepC hb5 (by go_simp)
   clear hb5 p0 p1 p2 p3 p4 d0 d1 d2 HFR
   go_wp2_with fail
   refine (HSP.out _).mono ?_
   rintro e w6 ⟨rfl, hb6⟩
   have HB6 := Lq (belowT HB5.out hb6)
   clear hb6 g0 g1 g2
   by_cases hE0 : E = 0
   ·subst hE0
    go_wp2
    go_roundw
    case rel => exact ⟨k + 1, by omega, by go_num, Lq (firstBad_succ HN.out HPE2.out), HB6⟩
    case measure => simp [intOf]; omega
   ·have hne2 : (E != 0) = true := by simpa using hE0
    go_wp2
    go_ret3
    exact ⟨by rw [HFIN.out (2, k, E) (by rw [HRR.out]; unfold listsE; rw [firstBad_at HN.out (by rw [HPE2.out]; exact hE0) hlt, HPE2.out])]; rfl, belowT HB0.out HB6.out⟩
  ·obtain rfl : k = ps.length := by omega
   have hr2 : R = match firstBad (jointE ps.length js) js.length with | some (i, e) => (3, i, e) | none => (0, 0, 0) := by rw [HRR.out]; unfold listsE; rw [HN.out]
   have HRR := Lq hr2
   clear hr2 HN
   have hjm2 : (js.length : Int) ≤ 12 := by omega
   have hw1 : IntKind.i64.wrap ((ps.length : Int) - 1) = (ps.length : Int) - 1 := by rw [IntKind.wrap_i64]; omega
   have HW1 := Lq hw1
   clear hw1
   go_wp2
   clear p0 p1 p2 p3 p4
   obtain ⟨wa, hwa⟩ : ∃ wa : World, wa = wr := ⟨_, rfl⟩
   subst hwa
   go_loopw [71] (fun i wr => ∃ k : Nat, k ≤ js.length ∧ i = iv k ∧ Hid (firstBad (jointE ps.length js) k = none) ∧ Hid (BW W1 wr)) (fun i _ => js.length - (intOf i).toNat)
   case atStart => exact ⟨0, Nat.zero_le _, rfl, Lq rfl, HBW⟩
   case round =>
    clear HBW
    obtain ⟨k, hk, rfl, HN, HBW⟩ := hrel
    obtain ⟨p0, p1, p2, p3, p4⟩ := HC.out _ HBW.out
    have hzr : w.heap.size < wr.heap.size := lt_of_cell p0
    by_cases hlt : k < js.length
    ·obtain ⟨j, hx⟩ : ∃ j, js[k]? = some j := ⟨_, List.getElem?_eq_getElem hlt⟩
     obtain ⟨a, b⟩ := j
     have hRw := (HH.out.below HBW.out (by omega)).js
     have hje : jointE ps.length js k = if inB 0 ((ps.length : Int) - 1) a && inB 0 ((ps.length : Int) - 1) b then (if b ≤ a then 2 else if hasJ (js.take k) (a, b) then 5 else 0) else 4 := by simp [jointE, hx]
     obtain ⟨bb, off, rfl, _, d0, d1⟩ := spAt hRw hx
     simp only at d0 d1
     have htl : (js.take k).length = k := by rw [List.length_take]; omega
     have hct := fun W (hb : BW wr W) => containsJ_any (some ⟨bb, off, none⟩) (js.take k) B capJ a b W (by rw [htl]; unfold maxLen; omega) ((hRw.take k).below hb (by have := HBW.out.size; omega)) (by have := HBW.out.size; have := hb.size; omega)
     rw [htl] at hct
     have HCT := Lq hct
     have HJE := Lq hje
     have hkz : (k : Int) < (js.length : Int) := by omega
     have hk0 : (0 : Int) ≤ (k : Int) := by omega
     have hkc : (k : Int) ≤ (capJ : Int) := by omega
     clear hct hje hx hRw htl
     cases h1 : (inB 0 ((ps.length : Int) - 1) a && inB 0 ((ps.length : Int) - 1) b)
     ·have hj : jointE ps.length js k = 4 := by rw [HJE.out, h1]; rfl
      have HJ := Lq hj
      have HO := Lq (fun g W => out_twoB h1 g W)
      have hw1 := HW1.out
      clear hj h1
      go_wp2_with fail
      refine (HO.out _ _ (by go_simp) (by go_simp)).mono ?_
      rintro e w5 ⟨rfl, hb5⟩
      have HB5 := Lq (belowT HBW.out (belowT (belowA (belowA (belowR _) _) _) hb5))
      clear hb5 p0 p1 p2 p3 p4 d0 d1 hw1
      go_wp2
      go_ret3
      exact ⟨by rw [HFIN.out (3, k, 4) (by rw [HRR.out, firstBad_at HN.out (by rw [HJ.out]; decide) hlt, HJ.out])]; rfl, belowT HB0.out HB5.out⟩
     have hb12 := h1
     rw [Bool.and_eq_true] at hb12
     have hab := inB_t hb12.1
     have hbb := inB_t hb12.2
     have HO := Lq (fun g W => out_twoB h1 g W)
     have hw1 := HW1.out
     clear hb12
     by_cases h2 : b ≤ a
     ·have hj : jointE ps.length js k = 2 := by rw [HJE.out, h1, if_pos rfl, if_pos h2]
      have HJ := Lq hj
      clear hj h1
      go_wp2_with fail
      refine (HO.out _ _ (by go_simp) (by go_simp)).mono ?_
      rintro e w5 ⟨rfl, hb5⟩
      have HB5 := Lq (belowT HBW.out (belowT (belowA (belowA (belowR _) _) _) hb5))
      have e0 : w5.cell? ⟨wr.heap.size, 0, none⟩ = some (iv a) := keepC hb5 (by go_simp)
      have e1 : w5.cell? ⟨wr.heap.size, 1, none⟩ = some (iv b) := keepC hb5 (by go_simp)
      clear hb5 p0 p1 p2 p3 p4 d0 d1 hw1
      go_wp2
      go_ret3
      exact ⟨by rw [HFIN.out (3, k, 2) (by rw [HRR.out, firstBad_at HN.out (by rw [HJ.out]; decide) hlt, HJ.out])]; rfl, belowT HB0.out HB5.out⟩
     cases h3 : hasJ (js.take k) (a, b)
     all_goals
      have HJ3 := Lq h3
      have hj : jointE ps.length js k = if hasJ (js.take k) (a, b) then 5 else 0 := by rw [HJE.out, h1, if_pos rfl, if_neg h2]
      have HJ := Lq hj
      clear hj h1 h3
      go_wp2_with fail
      refine (HO.out _ _ (by go_simp) (by go_simp)).mono ?_
      rintro e w5 ⟨rfl, hb5⟩
      have hb6 := belowT (belowA (belowA (belowR wr) (.cells #[iv a, iv b] 45)) (.cells #[iv a, iv b] 3)) hb5
      have HB6 := Lq hb6
      have HB5 := Lq (belowT HBW.out hb6)
      have e0 : w5.cell? ⟨wr.heap.size, 0, none⟩ = some (iv a) := keepC hb5 (by go_simp)
      have e1 : w5.cell? ⟨wr.heap.size, 1, none⟩ = some (iv b) := keepC hb5 (by go_simp)
      have hzr5 := hb6.size
      clear hb5 hb6 p0 p1 p2 p3 p4 d0 d1 hw1
      obtain ⟨p0, p1, p2, p3, p4⟩ := HC.out _ HB5.out
      have HCN : Hid (Calls Tryz.prog 125 #[.slice (some ⟨bb, off, none⟩) k capJ, .agg #[iv a, iv b]] w5.drew (Rt w5.drew (.bool (hasJ (js.take k) (a, b))))) := Lq (HCT.out w5.drew (belowDr HB6.out))
      have HC5 : Hid (∀ W, BW w5 W → W.cell? ⟨w.heap.size, 1, none⟩ = some (.slice (some ⟨bb, off, none⟩) js.length capJ) ∧ W.cell? ⟨wr.heap.size, 0, none⟩ = some (iv a) ∧ W.cell? ⟨wr.heap.size, 1, none⟩ = some (iv b)) := Lq fun W hb => ⟨keepC hb p1, keepC hb e0, keepC hb e1⟩
      go_wp2
      go_region_held3 (fun W => W.cell? ⟨w.heap.size, 1, none⟩ = some (.slice (some ⟨bb, off, none⟩) js.length capJ) ∧ W.cell? ⟨wr.heap.size, 0, none⟩ = some (iv a) ∧ W.cell? ⟨wr.heap.size, 1, none⟩ = some (iv b)) (first | exact HC5.out _ (undrew0 hb7) | exact HC5.out _ (belowDr (belowR _))) (((go_at_call 125; refine HCN.out.mono ?_; rintro e w7 ⟨he, hb7⟩; rw [HJ3.out] at he; subst he)))
      have HB7 := Lq (belowT HB5.out (undrew0 hb7))
      clear hb7 p0 p1 p2 p3 p4 e0 e1
      go_wp2
     ·go_roundw
      case rel => exact ⟨k + 1, by omega, by go_num, Lq (firstBad_succ HN.out (by rw [HJ.out, HJ3.out]; rfl)), HB7⟩
      case measure => simp [intOf]; omega
     ·go_ret3
      exact ⟨by rw [HFIN.out (3, k, 5) (by rw [HRR.out, firstBad_at HN.out (by rw [HJ.out, HJ3.out]; decide) hlt, HJ.out, HJ3.out]; rfl)]; rfl, belowT HB0.out HB7.out⟩
    ·obtain rfl : k = js.length := by omega
     have hr2 : R = (0, 0, 0) := by rw [HRR.out, HN.out]
     have HRR := Lq hr2
     clear hr2 HN p0 p1 p2 p3 p4
     go_wp2
     go_ret3
     exact ⟨by rw [HFIN.out _ HRR.out]; rfl, belowT HB0.out HBW.out⟩
end Go.Proofs.YtmhjhbchokbonaaGreat
namespace Go.Proofs.YtmhjhbchokbonaaGreat
theorem wrap62 (n : Int) (h0 : 0 ≤ n) (h1 : n < 2 ^ 62) : IntKind.i64.wrap n = n := by rw [IntKind.wrap_i64]; omega
theorem and64 {a b : Nat} (ha : a < 2 ^ 62) (hb : b < 2 ^ 62) : bits .and .i64 (a : Int) (b : Int) = ((a &&& b : Nat) : Int) := (bits_nat .i64 62 (by decide) wrap62 a b ha hb).1
theorem or64 {a b : Nat} (ha : a < 2 ^ 62) (hb : b < 2 ^ 62) : bits .or .i64 (a : Int) (b : Int) = ((a ||| b : Nat) : Int) := (bits_nat .i64 62 (by decide) wrap62 a b ha hb).2
theorem low64 : ∀ s : Nat, s < 256 → bits .and .i64 (s : Int) (-(s : Int)) = ((s &&& (256 - s) : Nat) : Int) := by decide +kernel
theorem shl1 : ∀ a : Nat, a < 9 → IntKind.i64.wrap (2 ^ a) = ((2 ^ a : Nat) : Int) := by decide +kernel
theorem andNot64 {a b : Nat} (ha : a < 256) (hb : b < 256) : bits .andNot .i64 (a : Int) (b : Int) = ((a &&& (255 - b) : Nat) : Int) := by
 have h1 : ∀ b : Nat, b < 256 → (~~~BitVec.ofInt 64 (b : Int)) = BitVec.ofInt 64 ((18446744073709551615 - b : Nat) : Int) := by decide +kernel
 have hx : a &&& (18446744073709551615 - b) < 2 ^ 62 := Nat.lt_of_le_of_lt Nat.and_le_left (by omega)
 have hy : a &&& (18446744073709551615 - b) = a &&& (255 - b) := by
  apply Nat.eq_of_testBit_eq
  intro i
  rw [Nat.testBit_and, Nat.testBit_and]
  rcases Nat.lt_or_ge i 8 with hi | hi
  ·congr 1
   have e1 : 18446744073709551615 - b = 2 ^ 64 - (b + 1) := by omega
   have e2 : 255 - b = 2 ^ 8 - (b + 1) := by omega
   rw [e1, e2, Nat.testBit_two_pow_sub_succ (by omega), Nat.testBit_two_pow_sub_succ (by omega)]
   simp [hi, show i < 64 by omega]
  ·have : a.testBit i = false := Nat.testBit_lt_two_pow (Nat.lt_of_lt_of_le ha (by
    have := Nat.pow_le_pow_right (show 0 < 2 by decide) hi
    exact this))
   rw [this]; simp
 show IntKind.i64.wrap ((BitVec.ofInt 64 (a : Int) &&& ~~~BitVec.ofInt 64 (b : Int)).toNat : Int) = _
 rw [h1 b hb, BitVec.toNat_and, ofInt_u64 a (by omega), ofInt_u64 _ (by omega), wrap62 _ (by omega) (by omega), hy]
theorem bit64 {s : Nat} (hs : s < 2 ^ 62) (k : Nat) : bits .and .i64 ((s : Int) / 2 ^ k) 1 = if s.testBit k then 1 else 0 := by
 have h1 : (s : Int) / 2 ^ k = ((s / 2 ^ k : Nat) : Int) := by rw [Int.natCast_ediv, Int.natCast_pow]; rfl
 have h2 : s / 2 ^ k < 2 ^ 62 := Nat.lt_of_le_of_lt (Nat.div_le_self _ _) hs
 have h3 := and64 (a := s / 2 ^ k) (b := 1) h2 (by decide)
 rw [h1, show (1 : Int) = ((1 : Nat) : Int) from rfl, h3, Nat.and_one_is_mod, Nat.testBit_eq_decide_div_mod_eq]
 rcases Nat.mod_two_eq_zero_or_one (s / 2 ^ k) with h | h <;> simp [h]
theorem bit64_t {s : Nat} (hs : s < 256) {k : Nat} (h : s.testBit k = true) : bits .and .i64 ((s : Int) / 2 ^ k) 1 = 1 := by rw [bit64 (by omega), h]; rfl
theorem bit64_f {s : Nat} (hs : s < 256) {k : Nat} (h : s.testBit k = false) : bits .and .i64 ((s : Int) / 2 ^ k) 1 = 0 := by rw [bit64 (by omega), h]; rfl
def pairN (j : Int × Int) : Nat := 2 ^ j.1.toNat ||| 2 ^ j.2.toNat
def hstep (s next : Nat) (j : Int × Int) : Nat := if pairN j &&& s = pairN j ∧ pairN j &&& next ≠ 0 then next ||| pairN j else next
def hround (js : List (Int × Int)) (s met : Nat) : Nat := js.foldl (hstep s) met
def hangF (js : List (Int × Int)) (s : Nat) : Nat → Nat → Bool
 | 0, _ => false
 | f + 1, met => if hround js s met = met then met == s else hangF js s f (hround js s met)
def hangsB (js : List (Int × Int)) (s : Nat) : Bool := hangF js s 257 (s &&& (256 - s))
def JsOk (n : Nat) (js : List (Int × Int)) : Prop := ∀ j ∈ js, 0 ≤ j.1 ∧ j.1 < j.2 ∧ j.2 < n
theorem pow_lt {a : Nat} (h : a < 8) : 2 ^ a < 256 := by
 have := Nat.pow_le_pow_right (show 0 < 2 by decide) (show a ≤ 7 by omega)
 omega
theorem or_lt {a b : Nat} (ha : a < 256) (hb : b < 256) : a ||| b < 256 := Nat.or_lt_two_pow (n := 8) ha hb
theorem pairN_lt {j : Int × Int} (h1 : j.1 < 8) (h2 : j.2 < 8) : pairN j < 256 := or_lt (pow_lt (by omega)) (pow_lt (by omega))
theorem hstep_lt {s next : Nat} {j : Int × Int} (h1 : j.1 < 8) (h2 : j.2 < 8) (hn : next < 256) : hstep s next j < 256 := by
 unfold hstep
 split
 ·exact or_lt hn (pairN_lt h1 h2)
 ·exact hn
theorem le_or_left (a b : Nat) : a ≤ a ||| b := Nat.left_le_or
theorem hstep_ge (s next : Nat) (j : Int × Int) : next ≤ hstep s next j := by
 unfold hstep
 split
 ·exact le_or_left _ _
 ·exact Nat.le_refl _
theorem fold_lt {n : Nat} (hn : n ≤ 8) (s : Nat) : ∀ (js : List (Int × Int)) (met : Nat), JsOk n js → met < 256 → js.foldl (hstep s) met < 256 := by
 intro js
 induction js with
 | nil => intro met _ h; exact h
 | cons j js ih =>
  intro met hj h
  rw [List.foldl_cons]
  have := hj j (by simp)
  exact ih _ (fun x hx => hj x (List.mem_cons_of_mem _ hx)) (hstep_lt (by omega) (by omega) h)
theorem fold_ge (s : Nat) : ∀ (js : List (Int × Int)) (met : Nat), met ≤ js.foldl (hstep s) met := by
 intro js
 induction js with
 | nil => intro met; exact Nat.le_refl _
 | cons j js ih => intro met; rw [List.foldl_cons]; exact Nat.le_trans (hstep_ge s met j) (ih _)
theorem fold_snoc (s : Nat) (js : List (Int × Int)) (met k : Nat) (j : Int × Int) (h : js[k]? = some j) : (js.take (k + 1)).foldl (hstep s) met = hstep s ((js.take k).foldl (hstep s) met) j := by
 obtain ⟨hk, rfl⟩ := List.getElem?_eq_some_iff.1 h
 rw [List.take_succ_eq_append_getElem hk, List.foldl_append]; rfl
theorem low_lt (s : Nat) (h : s < 256) : s &&& (256 - s) < 256 := Nat.lt_of_le_of_lt Nat.and_le_left h
end Go.Proofs.YtmhjhbchokbonaaGreat
namespace Go.Proofs.YtmhjhbchokbonaaGreat
open Go.RowKit
theorem hangs_any (g s n : Nat) (J : Option Addr) (js : List (Int × Int)) (capJ B : Nat) (w : World) (hs : s < 256) (hn8 : n ≤ 8) (hj : JsOk n js) (hjl : js.length ≤ 12)
  (c1 : w.cell? ⟨g, 1, none⟩ = some (.slice J js.length capJ)) (hR : RdN 2 encSp w B J js) (hB : B ≤ w.heap.size) :
  Calls Tryz.prog 76 #[pT g 0, iv s] w (Rt w (.bool (hangsB js s))) := by
 have hl := low64 s hs
 have hlt := low_lt s hs
 obtain ⟨L, hL⟩ := ex (s &&& (256 - s))
 rw [hL] at hl hlt
 have hst : hangsB js s = hangF js s 257 L := by unfold hangsB; rw [hL]
 obtain ⟨R, hR0⟩ := ex (hangsB js s)
 rw [hR0] at hst ⊢
 have HST := Lq hst.symm
 have HJ := Lq hj
 have HR := Lq hR
 have HC : Hid (∀ W, BW w W → W.cell? ⟨g, 1, none⟩ = some (.slice J js.length capJ)) := Lq fun W hb => keepC hb c1
 clear hst hR0 hL hj hR
 have hg := lt_of_cell c1
 go_enter Tryz.func76, Tryz.ntmps76
 go_wp2
 go_loopw [5] (fun vm wr => ∃ m f : Nat, vm = iv m ∧ m < 256 ∧ 257 ≤ m + f ∧ Hid (hangF js s f m = R) ∧ Hid (BW w wr)) (fun vm _ => 256 - (intOf vm).toNat)
 case atStart => exact ⟨L, 257, rfl, hlt, by omega, HST, Lq (belowR _)⟩
 case round =>
  clear HST c1
  obtain ⟨m, f, rfl, hm, hmf, HF, HBW⟩ := hrel
  have c1 := HC.out _ HBW.out
  have hzr : g < wr.heap.size := lt_of_cell c1
  go_wp2
  obtain ⟨wa, hwa⟩ : ∃ wa : World, wa = wr := ⟨_, rfl⟩
  subst hwa
  go_loopw [6, 21] (fun vn vi wr => ∃ k : Nat, ∃ x : Nat, k ≤ js.length ∧ vi = iv k ∧ vn = iv x ∧ x < 256 ∧ Hid ((js.take k).foldl (hstep s) m = x) ∧ Hid (BW w wr)) (fun _ vi _ => js.length - (intOf vi).toNat)
  case atStart => exact ⟨0, m, Nat.zero_le _, rfl, rfl, hm, Lq rfl, HBW⟩
  case round =>
   clear HBW c1
   obtain ⟨k, x, hk, rfl, rfl, hx, HX, HBW⟩ := hrel
   have c1 := HC.out _ HBW.out
   have hzr : g < wr.heap.size := lt_of_cell c1
   by_cases hlt : k < js.length
   ·obtain ⟨j, hjx⟩ : ∃ j, js[k]? = some j := ⟨_, List.getElem?_eq_getElem hlt⟩
    have hjo := HJ.out j (List.mem_of_getElem? hjx)
    have hsn := fold_snoc s js m k j hjx
    rw [HX.out] at hsn
    obtain ⟨bb, off, rfl, _, d0, d1⟩ := spAt (HR.out.below HBW.out hB) hjx
    obtain ⟨a, b⟩ := j
    simp only at d0 d1 hjo
    obtain ⟨a, rfl⟩ : ∃ n : Nat, a = n := ⟨a.toNat, by omega⟩
    obtain ⟨b, rfl⟩ : ∃ n : Nat, b = n := ⟨b.toNat, by omega⟩
    have ha8 : a < 8 := by omega
    have hb8 : b < 8 := by omega
    have hpa := shl1 a (by omega)
    have hpb := shl1 b (by omega)
    have hla := pow_lt ha8
    have hlb := pow_lt hb8
    have hpp : pairN ((a : Int), (b : Int)) = 2 ^ a ||| 2 ^ b := rfl
    have hor := or64 (a := 2 ^ a) (b := 2 ^ b) (by omega) (by omega)
    have hlp := or_lt hla hlb
    obtain ⟨pa, hpa'⟩ := ex ((2 ^ a : Nat))
    obtain ⟨pb, hpb'⟩ := ex ((2 ^ b : Nat))
    rw [hpa'] at hpa hor hlp hpp hla
    rw [hpb'] at hpb hor hlp hpp hlb
    obtain ⟨P, hP⟩ := ex (pa ||| pb)
    rw [hP] at hor hlp hpp
    have ha1 := and64 (a := P) (b := s) (by omega) (by omega)
    have ha2 := and64 (a := P) (b := x) (by omega) (by omega)
    have ha3 := or64 (a := x) (b := P) (by omega) (by omega)
    have hxl := or_lt hx hlp
    have hkz : (k : Int) < (js.length : Int) := by omega
    have hk0 : (0 : Int) ≤ (k : Int) := by omega
    have hsn2 : (js.take (k + 1)).foldl (hstep s) m = if P &&& s = P ∧ P &&& x ≠ 0 then x ||| P else x := by rw [hsn]; unfold hstep; rw [hpp]
    have HSN := Lq hsn2
    have HBS : Hid (BW w (wr.alloc (.cells #[iv (a : Int), iv (b : Int)] 45))) := Lq (belowA HBW.out _)
    clear hsn hsn2 hjx hjo hP hpp hpa' hpb'
    have HA1 := Lq ha1
    have HA2 := Lq ha2
    have HA3 := Lq ha3
    clear ha1 ha2 ha3
    go_wp2
    go_quiet (fail)
    have HBN := Lq (belowN HBS.out nq)
    clear HBS
    generalize (wr.alloc (.cells #[iv (a : Int), iv (b : Int)] 45)).drewN nq = wn at *
    clear hpa hpb hor d0 d1 c1
    by_cases hq1 : P &&& s = P
    ·have ha1 := HA1.out
     rw [hq1] at ha1
     by_cases hq2 : P &&& x = 0
     ·have ha2 := HA2.out
      rw [hq2] at ha2
      have HS2 : Hid ((js.take (k + 1)).foldl (hstep s) m = x) := Lq (by rw [HSN.out, if_neg (fun h => h.2 hq2)])
      clear hq1 hq2
      go_wp2
      go_roundw
      case rel => exact ⟨k + 1, x, by omega, by go_num, rfl, hx, HS2, HBN⟩
      case measure => simp [intOf]; omega
     ·have HS2 : Hid ((js.take (k + 1)).foldl (hstep s) m = x ||| P) := Lq (by rw [HSN.out, if_pos ⟨hq1, hq2⟩])
      have ha2 := HA2.out
      obtain ⟨M, hM⟩ := ex (P &&& x)
      rw [hM] at hq2 ha2
      have hne : (((M : Nat) : Int) != 0) = true := by simpa using hq2
      have ha3 := HA3.out
      clear hq1 hM hq2
      go_wp2
      go_roundw
      case rel => exact ⟨k + 1, x ||| P, by omega, by go_num, rfl, hxl, HS2, HBN⟩
      case measure => simp [intOf]; omega
    ·have HS2 : Hid ((js.take (k + 1)).foldl (hstep s) m = x) := Lq (by rw [HSN.out, if_neg (fun h => hq1 h.1)])
     have ha1 := HA1.out
     obtain ⟨M, hM⟩ := ex (P &&& s)
     rw [hM] at hq1 ha1
     have hne : (((M : Nat) : Int) == ((P : Nat) : Int)) = false := by rw [beq_eq_false_iff_ne]; omega
     clear hq1 hM
     go_wp2
     go_roundw
     case rel => exact ⟨k + 1, x, by omega, by go_num, rfl, hx, HS2, HBN⟩
     case measure => simp [intOf]; omega
   ·obtain rfl : k = js.length := by omega
    have hxx := HX.out
    rw [List.take_length] at hxx
    have hge := fold_ge s js m
    rw [hxx] at hge
    have hhr : hround js s m = x := hxx
    obtain ⟨f, rfl⟩ : ∃ f', f = f' + 1 := ⟨f - 1, by omega⟩
    have hF := HF.out
    unfold hangF at hF
    rw [hhr] at hF
    have HFF := Lq hF
    clear hxx hhr hF HX HF
    by_cases hxm : x = m
    ·subst hxm
     have hres : (x == s) = R := by have := HFF.out; rwa [if_pos rfl] at this
     have HRS := Lq hres
     clear hres
     go_wp2
     go_ret
     exact ⟨by rw [← HRS.out]; refine ret_bool ?_; rw [Bool.eq_iff_iff]; simp; omega, HBW.out⟩
    ·have hres : hangF js s f x = R := by have := HFF.out; rwa [if_neg hxm] at this
     have HRS := Lq hres
     have hne : (((x : Nat) : Int) == ((m : Nat) : Int)) = false := by rw [beq_eq_false_iff_ne]; omega
     clear hres HFF
     go_wp2
     go_roundw
     case rel => exact ⟨x, f, rfl, hx, by omega, HRS, HBW⟩
     case measure => simp [intOf]; omega
def blockE (n : Nat) (js : List (Int × Int)) (set : Int) : Int := if inB 1 ((2 : Int) ^ n - 1) set then (if hangsB js set.toNat then 0 else 6) else 4
theorem block_any (g n : Nat) (set : Int) (A J : Option Addr) (js : List (Int × Int)) (cap capJ B : Nat) (w : World) (hn1 : 1 ≤ n) (hn8 : n ≤ 8) (hj : JsOk n js) (hjl : js.length ≤ 12)
  (c0 : w.cell? ⟨g, 0, none⟩ = some (.slice A n cap)) (c1 : w.cell? ⟨g, 1, none⟩ = some (.slice J js.length capJ)) (hR : RdN 2 encSp w B J js) (hB : B ≤ w.heap.size) :
  Calls Tryz.prog 89 #[pT g 0, iv set] w (Rt w (iv (blockE n js set))) := by
 have hg := lt_of_cell c1
 have hsh := shl1 n (by omega)
 have hp : 2 ≤ 2 ^ n ∧ 2 ^ n ≤ 256 := ⟨by
  have := Nat.pow_le_pow_right (show 0 < 2 by decide) hn1
  omega, by
  have := Nat.pow_le_pow_right (show 0 < 2 by decide) hn8
  omega⟩
 have hbe : blockE n js set = if inB 1 (((2 ^ n : Nat) : Int) - 1) set then (if hangsB js set.toNat then 0 else 6) else 4 := by unfold blockE; rw [Int.natCast_pow]; rfl
 obtain ⟨P, hP⟩ := ex ((2 ^ n : Nat))
 rw [hP] at hsh hp hbe
 obtain ⟨hp1, hp2⟩ := hp
 have HBE := Lq hbe
 clear hbe hP
 have hhc := fun (s : Nat) (hs : s < 256) W (hb : BW w W) => hangs_any g s n J js capJ B W hs hn8 hj hjl (keepC hb c1) (hR.below hb hB) (Nat.le_trans hB hb.size)
 have HHC := Lq hhc
 clear hhc hj hR
 cases h1 : inB 1 ((P : Int) - 1) set
 ·have HO := Lq (fun g W => out_oneB h1 g W)
  have HE : Hid (blockE n js set = 4) := Lq (by rw [HBE.out, h1]; rfl)
  clear h1
  go_enter Tryz.func89, Tryz.ntmps89
  go_wp2_with fail
  refine (HO.out _ _ (by go_simp)).mono ?_
  rintro e w2 ⟨rfl, hb2⟩
  have HB2 := Lq (belowT (belowA (belowR _) _) hb2)
  clear hb2
  go_wp2
  go_ret
  exact ⟨by rw [HE.out]; rfl, HB2.out⟩
 ·have HO := Lq (fun g W => out_oneB h1 g W)
  have hb := inB_t h1
  obtain ⟨s, rfl⟩ : ∃ s : Nat, set = s := ⟨set.toNat, by omega⟩
  have hs : s < 256 := by omega
  have hbe2 : blockE n js s = if hangsB js s then 0 else 6 := by rw [HBE.out, h1]; rfl
  have HE := Lq hbe2
  clear h1 hbe2 HBE
  cases h2 : hangsB js s
  all_goals
   have HG := Lq h2
   clear h2
   go_enter Tryz.func89, Tryz.ntmps89
   go_wp2_with fail
   refine (HO.out _ _ (by go_simp)).mono ?_
   rintro e w2 ⟨rfl, hb2⟩
   have hb2' := belowT (belowA (belowR w) (.cells #[iv (s : Int)] 3)) hb2
   have HB2 := Lq hb2'
   clear hb2 hb2'
   go_wp2_with fail
   refine (HHC.out s hs w2 HB2.out).mono ?_
   rintro e w3 ⟨he, hb3⟩
   rw [HG.out] at he
   subst he
   have HB3 := Lq (belowT HB2.out hb3)
   clear hb3
   go_wp2
   go_ret
   exact ⟨by rw [HE.out, HG.out]; rfl, HB3.out⟩
end Go.Proofs.YtmhjhbchokbonaaGreat
