/- The blocks of a cut, asked for in a region of (block.task).can, within a round (printed by mkE14.py). first: the regions of a round (printed by mkT13r.py). Where a hull first does not surely stand (printed by mkT13.py). stand.Why, Tide, where nothing is wrong (printed by mkT14.py). Two rows of a call's own beside each other: what an allocation and an append do to them. The law's own hull and .. -/
import Derived.Deep.RegionHeld3
import Derived.Test.YtmhjhbchokbonaaGreatM0
import Derived.Test.YtmhjhbchokbonaaGreatM5
import Derived.Test.YtmhjhbchokbonaaGreatM10
import Derived.Test.YtmhjhbchokbonaaGreatM12
import Derived.Test.YtmhjhbchokbonaaGreatM14
import Derived.Test.YtmhjhbchokbonaaGreatM16
set_option maxRecDepth 1000000
set_option maxHeartbeats 16000000
namespace Go.Proofs.YtmhjhbchokbonaaGreat
open Go.RowKit Go.Shelf
def regionNo2 (n : Nat) : Code → Option Code
 | .region id ops d => if id = n then some (.region id ops d) else none
 | .seq a b => match regionNo2 n a with
  | some c => some c
  | none => regionNo2 n b
 | .cond _ a b => match regionNo2 n a with
  | some c => some c
  | none => regionNo2 n b
 | .block _ c => regionNo2 n c
 | .loop c => regionNo2 n c
 | .scope c => regionNo2 n c
 | .rangeFunc _ _ a b => match regionNo2 n a with
  | some c => some c
  | none => regionNo2 n b
 | _ => none
noncomputable def regionOf2 (f : Func) (n : Nat) : Code := (f.body.bind (regionNo2 n)).getD .skip
noncomputable def ops117_3 : Array Oper := opsOf (regionOf2 Tryz.f118 3)
theorem st117_full {Q : Exit → Act → World → Prop} {V : World} {g gt gc n cap K c0 c1 c2 c3 c4 c5 c6 c7 s0 s1 s2 s3 s4 s5 s6 s7 : Nat} {A : Option Addr} {z0 z1 z3 z4 z7 z8 z9 z10 z11 z12 z13 z26 z27 z28 z29 z30 : Value} (hbk : ∀ W, Calls Tryz.prog 75 #[.agg #[nv c0, nv c1, nv c2, nv c3, nv c4, nv c5, nv c6, nv c7], iv n] W (Rt W (.tuple #[.agg #[nv s0, nv s1, nv s2, nv s3, nv s4, nv s5, nv s6, nv s7], nv K])))
  (hQ : ∀ gg u14 u15 u16 u17 u18 u19 u20 u21 u22 u23 u24 u25 wx, V.heap.size ≤ gg → gg < wx.heap.size → BW V wx → Blk wx gg 154 #[nv s0, nv s1, nv s2, nv s3, nv s4, nv s5, nv s6, nv s7] → Q .normal ⟨#[z0, z1, pT gt 0, z3, z4, pT gc 0, pT gg 0, nv K, z8, z9, z10, z11, z12, z13, u14, u15, u16, u17, u18, u19, u20, u21, u22, u23, u24, u25, z26, z27, z28, z29, z30], []⟩ wx) {w : World} (hS : BW V w) {gg : Nat} (hg : V.heap.size ≤ gg) (hb : Blk w gg 154 #[iv 0, iv 0, iv 0, iv 0, iv 0, iv 0, iv 0, iv 0]) :
  wpAnyH Tryz.prog .any ops117_3 (OnlyN Q) (fun W => BW V W) 2 #[true, true, true, true, true, true, true, true, true, true, true, true, true, false, false] ⟨#[z0, z1, pT gt 0, z3, z4, pT gc 0, pT gg 0, z7, z8, z9, z10, z11, z12, z13, .tuple #[.agg #[nv s0, nv s1, nv s2, nv s3, nv s4, nv s5, nv s6, nv s7], nv K], .agg #[nv c0, nv c1, nv c2, nv c3, nv c4, nv c5, nv c6, nv c7], pT gt 0, ptr g, ptr g, pT g 0, pT g 0, .slice A n cap, iv n, .tuple #[.agg #[nv s0, nv s1, nv s2, nv s3, nv s4, nv s5, nv s6, nv s7], nv K], .agg #[nv s0, nv s1, nv s2, nv s3, nv s4, nv s5, nv s6, nv s7], nv K, z26, z27, z28, z29, z30], []⟩ w := by
 have _used := hbk
 refine wpAnyH_ready (rs := [13]) (by kernel_rfl) (by simp) ?_
 refine AllReadyH.cons (o := opN ops117_3 13) (by kernel_rfl) (fun K' hK => ?_) AllReadyH.nil
 obtain ⟨o, e⟩ : ∃ o, o = opN ops117_3 13 := ⟨_, rfl⟩
 rw [← e]
 conv at e => rhs; whnf
 subst e
 have hbx := below8 hS hg (nv s0) (nv s1) (nv s2) (nv s3) (nv s4) (nv s5) (nv s6) (nv s7)
 have hblk := hb.set8 (nv s0) (nv s1) (nv s2) (nv s3) (nv s4) (nv s5) (nv s6) (nv s7)
 have hlt := hb.lt
 have e0 := hb.cell 0
 have f0 := hb.frozen 0
 have e1 := hb.cell 1
 have f1 := hb.frozen 1
 have e2 := hb.cell 2
 have f2 := hb.frozen 2
 have e3 := hb.cell 3
 have f3 := hb.frozen 3
 have e4 := hb.cell 4
 have f4 := hb.frozen 4
 have e5 := hb.cell 5
 have f5 := hb.frozen 5
 have e6 := hb.cell 6
 have f6 := hb.frozen 6
 have e7 := hb.cell 7
 have f7 := hb.frozen 7
 go_simp
 refine hK.out _ _ hbx (fun hHeld => ?_)
 clear hK e0 e1 e2 e3 e4 e5 e6 e7 f0 f1 f2 f3 f4 f5 f6 f7
 (try simp only [List.setIfInBounds_toArray, List.set_cons_zero, List.set_cons_succ])
 obtain ⟨wx, hwx⟩ := ex (((((((((w.setCell ⟨gg, 0, none⟩ (nv s0)).setCell ⟨gg, 1, none⟩ (nv s1)).setCell ⟨gg, 2, none⟩ (nv s2)).setCell ⟨gg, 3, none⟩ (nv s3)).setCell ⟨gg, 4, none⟩ (nv s4)).setCell ⟨gg, 5, none⟩ (nv s5)).setCell ⟨gg, 6, none⟩ (nv s6)).setCell ⟨gg, 7, none⟩ (nv s7)))
 have hwz : wx.heap.size = w.heap.size := by rw [← hwx]; simp
 rw [hwx] at hbx hblk hHeld ⊢
 clear hwx
 refine tk 14 (nv K) ?_
 refine wpAnyH_done (by kernel_rfl) ?_ _
 exact hQ gg _ _ _ _ _ _ _ _ _ _ _ _ wx hg (by omega) hbx hblk
theorem st117_b {Q : Exit → Act → World → Prop} {V : World} {g gt gc n cap K c0 c1 c2 c3 c4 c5 c6 c7 s0 s1 s2 s3 s4 s5 s6 s7 : Nat} {A : Option Addr} {z0 z1 z3 z4 z6 z7 z8 z9 z10 z11 z12 z13 z26 z27 z28 z29 z30 : Value} (hbk : ∀ W, Calls Tryz.prog 75 #[.agg #[nv c0, nv c1, nv c2, nv c3, nv c4, nv c5, nv c6, nv c7], iv n] W (Rt W (.tuple #[.agg #[nv s0, nv s1, nv s2, nv s3, nv s4, nv s5, nv s6, nv s7], nv K])))
  (hQ : ∀ gg u14 u15 u16 u17 u18 u19 u20 u21 u22 u23 u24 u25 wx, V.heap.size ≤ gg → gg < wx.heap.size → BW V wx → Blk wx gg 154 #[nv s0, nv s1, nv s2, nv s3, nv s4, nv s5, nv s6, nv s7] → Q .normal ⟨#[z0, z1, pT gt 0, z3, z4, pT gc 0, pT gg 0, nv K, z8, z9, z10, z11, z12, z13, u14, u15, u16, u17, u18, u19, u20, u21, u22, u23, u24, u25, z26, z27, z28, z29, z30], []⟩ wx) {w : World} (hS : BW V w)  :
  wpAnyH Tryz.prog .any ops117_3 (OnlyN Q) (fun W => BW V W) 3 #[true, true, true, true, true, true, true, true, true, true, true, true, false, false, false] ⟨#[z0, z1, pT gt 0, z3, z4, pT gc 0, z6, z7, z8, z9, z10, z11, z12, z13, .tuple #[.agg #[nv s0, nv s1, nv s2, nv s3, nv s4, nv s5, nv s6, nv s7], nv K], .agg #[nv c0, nv c1, nv c2, nv c3, nv c4, nv c5, nv c6, nv c7], pT gt 0, ptr g, ptr g, pT g 0, pT g 0, .slice A n cap, iv n, .tuple #[.agg #[nv s0, nv s1, nv s2, nv s3, nv s4, nv s5, nv s6, nv s7], nv K], .agg #[nv s0, nv s1, nv s2, nv s3, nv s4, nv s5, nv s6, nv s7], nv K, z26, z27, z28, z29, z30], []⟩ w := by
 refine wpAnyH_ready (rs := [12]) (by kernel_rfl) (by simp) ?_
 refine AllReadyH.cons (o := opN ops117_3 12) (by kernel_rfl) (fun K' hK => ?_) AllReadyH.nil
 obtain ⟨o, e⟩ : ∃ o, o = opN ops117_3 12 := ⟨_, rfl⟩
 rw [← e]
 conv at e => rhs; whnf
 subst e
 go_simp
 refine hK.out _ _ (belowA hS _) (fun hHeld => ?_)
 exact st117_full hbk hQ (belowA hS _) hS.size (Blk.new w 154 _)
theorem st117_c {Q : Exit → Act → World → Prop} {V : World} {g gt gc n cap K c0 c1 c2 c3 c4 c5 c6 c7 s0 s1 s2 s3 s4 s5 s6 s7 : Nat} {A : Option Addr} {z0 z1 z3 z4 z7 z8 z9 z10 z11 z12 z13 z14 z23 z24 z25 z26 z27 z28 z29 z30 : Value} (hbk : ∀ W, Calls Tryz.prog 75 #[.agg #[nv c0, nv c1, nv c2, nv c3, nv c4, nv c5, nv c6, nv c7], iv n] W (Rt W (.tuple #[.agg #[nv s0, nv s1, nv s2, nv s3, nv s4, nv s5, nv s6, nv s7], nv K])))
  (hQ : ∀ gg u14 u15 u16 u17 u18 u19 u20 u21 u22 u23 u24 u25 wx, V.heap.size ≤ gg → gg < wx.heap.size → BW V wx → Blk wx gg 154 #[nv s0, nv s1, nv s2, nv s3, nv s4, nv s5, nv s6, nv s7] → Q .normal ⟨#[z0, z1, pT gt 0, z3, z4, pT gc 0, pT gg 0, nv K, z8, z9, z10, z11, z12, z13, u14, u15, u16, u17, u18, u19, u20, u21, u22, u23, u24, u25, z26, z27, z28, z29, z30], []⟩ wx) {w : World} (hS : BW V w) {gg : Nat} (hg : V.heap.size ≤ gg) (hb : Blk w gg 154 #[iv 0, iv 0, iv 0, iv 0, iv 0, iv 0, iv 0, iv 0]) :
  wpAnyH Tryz.prog .any ops117_3 (OnlyN Q) (fun W => BW V W) 6 #[true, true, true, true, true, true, true, true, false, false, false, false, true, false, false] ⟨#[z0, z1, pT gt 0, z3, z4, pT gc 0, pT gg 0, z7, z8, z9, z10, z11, z12, z13, z14, .agg #[nv c0, nv c1, nv c2, nv c3, nv c4, nv c5, nv c6, nv c7], pT gt 0, ptr g, ptr g, pT g 0, pT g 0, .slice A n cap, iv n, z23, z24, z25, z26, z27, z28, z29, z30], []⟩ w := by
 refine wpAnyH_ready (rs := [8]) (by kernel_rfl) (by simp) ?_
 refine AllReadyH.cons (o := opN ops117_3 8) (by kernel_rfl) (fun K' hK => ?_) ?_
 ·obtain ⟨o, e⟩ : ∃ o, o = opN ops117_3 8 := ⟨_, rfl⟩
  rw [← e]
  conv at e => rhs; whnf
  subst e
  go_simp
  refine (hbk w).mono ?_
  rintro e w1 ⟨rfl, hb1⟩
  refine hK.out _ _ (belowT hS hb1) (fun hHeld => ?_)
  clear hK
  (try simp only [List.setIfInBounds_toArray, List.set_cons_zero, List.set_cons_succ])
  refine tk 9 (.tuple #[.agg #[nv s0, nv s1, nv s2, nv s3, nv s4, nv s5, nv s6, nv s7], nv K]) ?_
  refine tk 10 (.agg #[nv s0, nv s1, nv s2, nv s3, nv s4, nv s5, nv s6, nv s7]) ?_
  refine tk 11 (nv K) ?_
  exact st117_full hbk hQ (belowT hS hb1) hg (hb.same (hb1.block _ hb.lt))
 exact AllReadyH.nil
theorem st117_a {Q : Exit → Act → World → Prop} {V : World} {g gt gc n cap K c0 c1 c2 c3 c4 c5 c6 c7 s0 s1 s2 s3 s4 s5 s6 s7 : Nat} {A : Option Addr} {z0 z1 z3 z4 z6 z7 z8 z9 z10 z11 z12 z13 z14 z23 z24 z25 z26 z27 z28 z29 z30 : Value} (hbk : ∀ W, Calls Tryz.prog 75 #[.agg #[nv c0, nv c1, nv c2, nv c3, nv c4, nv c5, nv c6, nv c7], iv n] W (Rt W (.tuple #[.agg #[nv s0, nv s1, nv s2, nv s3, nv s4, nv s5, nv s6, nv s7], nv K])))
  (hQ : ∀ gg u14 u15 u16 u17 u18 u19 u20 u21 u22 u23 u24 u25 wx, V.heap.size ≤ gg → gg < wx.heap.size → BW V wx → Blk wx gg 154 #[nv s0, nv s1, nv s2, nv s3, nv s4, nv s5, nv s6, nv s7] → Q .normal ⟨#[z0, z1, pT gt 0, z3, z4, pT gc 0, pT gg 0, nv K, z8, z9, z10, z11, z12, z13, u14, u15, u16, u17, u18, u19, u20, u21, u22, u23, u24, u25, z26, z27, z28, z29, z30], []⟩ wx) {w : World} (hS : BW V w)  :
  wpAnyH Tryz.prog .any ops117_3 (OnlyN Q) (fun W => BW V W) 7 #[true, true, true, true, true, true, true, true, false, false, false, false, false, false, false] ⟨#[z0, z1, pT gt 0, z3, z4, pT gc 0, z6, z7, z8, z9, z10, z11, z12, z13, z14, .agg #[nv c0, nv c1, nv c2, nv c3, nv c4, nv c5, nv c6, nv c7], pT gt 0, ptr g, ptr g, pT g 0, pT g 0, .slice A n cap, iv n, z23, z24, z25, z26, z27, z28, z29, z30], []⟩ w := by
 refine wpAnyH_ready (rs := [8, 12]) (by kernel_rfl) (by simp) ?_
 refine AllReadyH.cons (o := opN ops117_3 8) (by kernel_rfl) (fun K' hK => ?_) ?_
 ·obtain ⟨o, e⟩ : ∃ o, o = opN ops117_3 8 := ⟨_, rfl⟩
  rw [← e]
  conv at e => rhs; whnf
  subst e
  go_simp
  refine (hbk w).mono ?_
  rintro e w1 ⟨rfl, hb1⟩
  refine hK.out _ _ (belowT hS hb1) (fun hHeld => ?_)
  clear hK
  (try simp only [List.setIfInBounds_toArray, List.set_cons_zero, List.set_cons_succ])
  refine tk 9 (.tuple #[.agg #[nv s0, nv s1, nv s2, nv s3, nv s4, nv s5, nv s6, nv s7], nv K]) ?_
  refine tk 10 (.agg #[nv s0, nv s1, nv s2, nv s3, nv s4, nv s5, nv s6, nv s7]) ?_
  refine tk 11 (nv K) ?_
  exact st117_b hbk hQ (belowT hS hb1)
 refine AllReadyH.cons (o := opN ops117_3 12) (by kernel_rfl) (fun K' hK => ?_) AllReadyH.nil
 obtain ⟨o, e⟩ : ∃ o, o = opN ops117_3 12 := ⟨_, rfl⟩
 rw [← e]
 conv at e => rhs; whnf
 subst e
 go_simp
 refine hK.out _ _ (belowA hS _) (fun hHeld => ?_)
 exact st117_c hbk hQ (belowA hS _) hS.size (Blk.new w 154 _)
theorem reg117_3 {Q : Exit → Act → World → Prop} {V : World} {g gt gc m l2 n cap K c0 c1 c2 c3 c4 c5 c6 c7 s0 s1 s2 s3 s4 s5 s6 s7 : Nat} {A : Option Addr} {z0 z1 z3 z4 z6 z7 z8 z9 z10 z11 z12 z13 z14 z15 z16 z17 z18 z19 z20 z21 z22 z23 z24 z25 z26 z27 z28 z29 z30 : Value}
  (r0 : V.cell? ⟨gc, 0, none⟩ = some (nv c0)) (r1 : V.cell? ⟨gc, 1, none⟩ = some (nv c1)) (r2 : V.cell? ⟨gc, 2, none⟩ = some (nv c2)) (r3 : V.cell? ⟨gc, 3, none⟩ = some (nv c3)) (r4 : V.cell? ⟨gc, 4, none⟩ = some (nv c4)) (r5 : V.cell? ⟨gc, 5, none⟩ = some (nv c5)) (r6 : V.cell? ⟨gc, 6, none⟩ = some (nv c6)) (r7 : V.cell? ⟨gc, 7, none⟩ = some (nv c7)) (rt : V.cell? ⟨gt, 0, none⟩ = some (ptr g)) (rg : V.cell? ⟨g, 0, none⟩ = some (.slice A n cap)) (hbk : ∀ W, Calls Tryz.prog 75 #[.agg #[nv c0, nv c1, nv c2, nv c3, nv c4, nv c5, nv c6, nv c7], iv n] W (Rt W (.tuple #[.agg #[nv s0, nv s1, nv s2, nv s3, nv s4, nv s5, nv s6, nv s7], nv K])))
  (hQ : ∀ gg u14 u15 u16 u17 u18 u19 u20 u21 u22 u23 u24 u25 wx, V.heap.size ≤ gg → gg < wx.heap.size → BW V wx → Blk wx gg 154 #[nv s0, nv s1, nv s2, nv s3, nv s4, nv s5, nv s6, nv s7] → Q .normal ⟨#[z0, z1, pT gt 0, z3, z4, pT gc 0, pT gg 0, nv K, z8, z9, z10, z11, z12, z13, u14, u15, u16, u17, u18, u19, u20, u21, u22, u23, u24, u25, z26, z27, z28, z29, z30], []⟩ wx) :
  (regionOf2 Tryz.f118 3).wpIn (Fence.wide.inRound l2) m Tryz.prog Q ⟨#[z0, z1, pT gt 0, z3, z4, pT gc 0, z6, z7, z8, z9, z10, z11, z12, z13, z14, z15, z16, z17, z18, z19, z20, z21, z22, z23, z24, z25, z26, z27, z28, z29, z30], []⟩ V := by
 have e : regionOf2 Tryz.f118 3 = Code.region 3 ops117_3 true := by kernel_rfl
 rw [e]
 have hHeld : (fun W => BW V W) V.drew := belowDq (belowR V)
 refine wpIn_region_lift (S := fun W => BW V W) (by kernel_rfl) (by kernel_rfl) ?_
 have hsz : ops117_3.size = 15 := by kernel_rfl
 have hrep : Array.replicate 15 false = #[false, false, false, false, false, false, false, false, false, false, false, false, false, false, false] := by kernel_rfl
 rw [hsz, hrep]
 obtain ⟨o, e0⟩ : ∃ o, o = opN ops117_3 0 := ⟨_, rfl⟩
 have e := e0
 conv at e => rhs; whnf
 refine wpAnyH_take (i := 0) (oi := o) (v := .agg #[nv c0, nv c1, nv c2, nv c3, nv c4, nv c5, nv c6, nv c7]) (by rw [e0]; kernel_rfl) (by kernel_rfl) (by kernel_rfl) (by kernel_rfl) (fun _ _ _ h => h) (Or.inl ⟨by rw [e]; rfl, ?_⟩) (by assumption) ?_
 ·clear e0
  subst e
  intro w hSw
  have hSw : BW V w := hSw
  have k0 := keepC hSw r0; have k1 := keepC hSw r1; have k2 := keepC hSw r2; have k3 := keepC hSw r3; have k4 := keepC hSw r4; have k5 := keepC hSw r5; have k6 := keepC hSw r6; have k7 := keepC hSw r7
  have kt := keepC hSw rt
  have kg := keepC hSw rg
  go_simp
 clear e0
 subst e
 (try simp only [Act.put, List.setIfInBounds_toArray, List.set_cons_zero, List.set_cons_succ])
 obtain ⟨o, e0⟩ : ∃ o, o = opN ops117_3 1 := ⟨_, rfl⟩
 have e := e0
 conv at e => rhs; whnf
 refine wpAnyH_take (i := 1) (oi := o) (v := pT gt 0) (by rw [e0]; kernel_rfl) (by kernel_rfl) (by kernel_rfl) (by kernel_rfl) (fun _ _ _ h => h) (Or.inl ⟨by rw [e]; rfl, ?_⟩) (by assumption) ?_
 ·clear e0
  subst e
  intro w hSw
  have hSw : BW V w := hSw
  have k0 := keepC hSw r0; have k1 := keepC hSw r1; have k2 := keepC hSw r2; have k3 := keepC hSw r3; have k4 := keepC hSw r4; have k5 := keepC hSw r5; have k6 := keepC hSw r6; have k7 := keepC hSw r7
  have kt := keepC hSw rt
  have kg := keepC hSw rg
  go_simp
 clear e0
 subst e
 (try simp only [Act.put, List.setIfInBounds_toArray, List.set_cons_zero, List.set_cons_succ])
 obtain ⟨o, e0⟩ : ∃ o, o = opN ops117_3 2 := ⟨_, rfl⟩
 have e := e0
 conv at e => rhs; whnf
 refine wpAnyH_take (i := 2) (oi := o) (v := ptr g) (by rw [e0]; kernel_rfl) (by kernel_rfl) (by kernel_rfl) (by kernel_rfl) (fun _ _ _ h => h) (Or.inl ⟨by rw [e]; rfl, ?_⟩) (by assumption) ?_
 ·clear e0
  subst e
  intro w hSw
  have hSw : BW V w := hSw
  have k0 := keepC hSw r0; have k1 := keepC hSw r1; have k2 := keepC hSw r2; have k3 := keepC hSw r3; have k4 := keepC hSw r4; have k5 := keepC hSw r5; have k6 := keepC hSw r6; have k7 := keepC hSw r7
  have kt := keepC hSw rt
  have kg := keepC hSw rg
  go_simp
 clear e0
 subst e
 (try simp only [Act.put, List.setIfInBounds_toArray, List.set_cons_zero, List.set_cons_succ])
 obtain ⟨o, e0⟩ : ∃ o, o = opN ops117_3 3 := ⟨_, rfl⟩
 have e := e0
 conv at e => rhs; whnf
 refine wpAnyH_take (i := 3) (oi := o) (v := ptr g) (by rw [e0]; kernel_rfl) (by kernel_rfl) (by kernel_rfl) (by kernel_rfl) (fun _ _ _ h => h) (Or.inl ⟨by rw [e]; rfl, ?_⟩) (by assumption) ?_
 ·clear e0
  subst e
  intro w hSw
  have hSw : BW V w := hSw
  have k0 := keepC hSw r0; have k1 := keepC hSw r1; have k2 := keepC hSw r2; have k3 := keepC hSw r3; have k4 := keepC hSw r4; have k5 := keepC hSw r5; have k6 := keepC hSw r6; have k7 := keepC hSw r7
  have kt := keepC hSw rt
  have kg := keepC hSw rg
  go_simp
 clear e0
 subst e
 (try simp only [Act.put, List.setIfInBounds_toArray, List.set_cons_zero, List.set_cons_succ])
 obtain ⟨o, e0⟩ : ∃ o, o = opN ops117_3 4 := ⟨_, rfl⟩
 have e := e0
 conv at e => rhs; whnf
 refine wpAnyH_take (i := 4) (oi := o) (v := pT g 0) (by rw [e0]; kernel_rfl) (by kernel_rfl) (by kernel_rfl) (by kernel_rfl) (fun _ _ _ h => h) (Or.inl ⟨by rw [e]; rfl, ?_⟩) (by assumption) ?_
 ·clear e0
  subst e
  intro w hSw
  have hSw : BW V w := hSw
  have k0 := keepC hSw r0; have k1 := keepC hSw r1; have k2 := keepC hSw r2; have k3 := keepC hSw r3; have k4 := keepC hSw r4; have k5 := keepC hSw r5; have k6 := keepC hSw r6; have k7 := keepC hSw r7
  have kt := keepC hSw rt
  have kg := keepC hSw rg
  go_simp
 clear e0
 subst e
 (try simp only [Act.put, List.setIfInBounds_toArray, List.set_cons_zero, List.set_cons_succ])
 obtain ⟨o, e0⟩ : ∃ o, o = opN ops117_3 5 := ⟨_, rfl⟩
 have e := e0
 conv at e => rhs; whnf
 refine wpAnyH_take (i := 5) (oi := o) (v := pT g 0) (by rw [e0]; kernel_rfl) (by kernel_rfl) (by kernel_rfl) (by kernel_rfl) (fun _ _ _ h => h) (Or.inl ⟨by rw [e]; rfl, ?_⟩) (by assumption) ?_
 ·clear e0
  subst e
  intro w hSw
  have hSw : BW V w := hSw
  have k0 := keepC hSw r0; have k1 := keepC hSw r1; have k2 := keepC hSw r2; have k3 := keepC hSw r3; have k4 := keepC hSw r4; have k5 := keepC hSw r5; have k6 := keepC hSw r6; have k7 := keepC hSw r7
  have kt := keepC hSw rt
  have kg := keepC hSw rg
  go_simp
 clear e0
 subst e
 (try simp only [Act.put, List.setIfInBounds_toArray, List.set_cons_zero, List.set_cons_succ])
 obtain ⟨o, e0⟩ : ∃ o, o = opN ops117_3 6 := ⟨_, rfl⟩
 have e := e0
 conv at e => rhs; whnf
 refine wpAnyH_take (i := 6) (oi := o) (v := .slice A n cap) (by rw [e0]; kernel_rfl) (by kernel_rfl) (by kernel_rfl) (by kernel_rfl) (fun _ _ _ h => h) (Or.inl ⟨by rw [e]; rfl, ?_⟩) (by assumption) ?_
 ·clear e0
  subst e
  intro w hSw
  have hSw : BW V w := hSw
  have k0 := keepC hSw r0; have k1 := keepC hSw r1; have k2 := keepC hSw r2; have k3 := keepC hSw r3; have k4 := keepC hSw r4; have k5 := keepC hSw r5; have k6 := keepC hSw r6; have k7 := keepC hSw r7
  have kt := keepC hSw rt
  have kg := keepC hSw rg
  go_simp
 clear e0
 subst e
 (try simp only [Act.put, List.setIfInBounds_toArray, List.set_cons_zero, List.set_cons_succ])
 obtain ⟨o, e0⟩ : ∃ o, o = opN ops117_3 7 := ⟨_, rfl⟩
 have e := e0
 conv at e => rhs; whnf
 refine wpAnyH_take (i := 7) (oi := o) (v := iv n) (by rw [e0]; kernel_rfl) (by kernel_rfl) (by kernel_rfl) (by kernel_rfl) (fun _ _ _ h => h) (Or.inl ⟨by rw [e]; rfl, ?_⟩) (by assumption) ?_
 ·clear e0
  subst e
  intro w hSw
  have hSw : BW V w := hSw
  have k0 := keepC hSw r0; have k1 := keepC hSw r1; have k2 := keepC hSw r2; have k3 := keepC hSw r3; have k4 := keepC hSw r4; have k5 := keepC hSw r5; have k6 := keepC hSw r6; have k7 := keepC hSw r7
  have kt := keepC hSw rt
  have kg := keepC hSw rg
  go_simp
 clear e0
 subst e
 (try simp only [Act.put, List.setIfInBounds_toArray, List.set_cons_zero, List.set_cons_succ])
 exact st117_a hbk hQ hHeld
end Go.Proofs.YtmhjhbchokbonaaGreat
namespace Go.Proofs.YtmhjhbchokbonaaGreat
open Go.RowKit
def S5 (gw g6 : Nat) (y lo : Int) (W : World) : Prop := W.cell? ⟨gw, 0, none⟩ = some (iv y) ∧ W.cell? ⟨g6, 0, none⟩ = some (iv lo)
noncomputable def ops62_5 : Array Oper := opsOf (regionOf2 Tryz.f62 5)
theorem reg62_5 {Q : Exit → Act → World → Prop} {V : World} {m l2 : Nat} {gw gv g6 : Nat} {y lo x : Int} {z0 z1 z2 z3 z7 z8 z9 z10 z11 z12 z13 z14 z15 z16 z17 z18 z19 z20 z21 z22 z23 z24 z25 z26 z27 z28 z29 z30 z31 z32 z33 z34 z35 z36 z37 z38 z39 z40 z41 z42 z43 z44 z45 z46 z47 z48 z49 z50 z51 z52 z53 : Value} (hne : gv ≠ gw) (h6w : g6 ≠ gw) (h6v : g6 ≠ gv)
  (h4 : ∀ W, BW V W → Blk W gw 3 #[iv y] ∧ Blk W gv 3 #[iv x])
  (hS : ∀ W, BW V W → W.cell? ⟨gw, 0, none⟩ = some (iv y) ∧ W.cell? ⟨g6, 0, none⟩ = some (iv lo))
  (hQ : ∀  u21 u22 u23 wx, (∃ V0, BW V V0 ∧ wx = (V0.setCell ⟨gw, 0, none⟩ (iv y)).setCell ⟨gv, 0, none⟩ (iv lo)) → Q .normal ⟨#[z0, z1, z2, z3, .pointer (some ⟨gw, 0, none⟩), .pointer (some ⟨gv, 0, none⟩), .pointer (some ⟨g6, 0, none⟩), z7, z8, z9, z10, z11, z12, z13, z14, z15, z16, z17, z18, z19, z20, u21, u22, u23, z24, z25, z26, z27, z28, z29, z30, z31, z32, z33, z34, z35, z36, z37, z38, z39, z40, z41, z42, z43, z44, z45, z46, z47, z48, z49, z50, z51, z52, z53], []⟩ wx) :
  (regionOf2 Tryz.f62 5).wpIn (Fence.wide.inRound l2) m Tryz.prog Q ⟨#[z0, z1, z2, z3, .pointer (some ⟨gw, 0, none⟩), .pointer (some ⟨gv, 0, none⟩), .pointer (some ⟨g6, 0, none⟩), z7, z8, z9, z10, z11, z12, z13, z14, z15, z16, z17, z18, z19, z20, z21, z22, z23, z24, z25, z26, z27, z28, z29, z30, z31, z32, z33, z34, z35, z36, z37, z38, z39, z40, z41, z42, z43, z44, z45, z46, z47, z48, z49, z50, z51, z52, z53], []⟩ V := by
 have H4 := Lq h4
 clear h4
 have HS := Lq hS
 have HQ := Lq hQ
 have HB0 := Lq (belowDq (belowR V))
 clear hS hQ
 have e : regionOf2 Tryz.f62 5 = Code.region 5 ops62_5 true := by kernel_rfl
 rw [e]
 refine wpIn_region_lift (S := (fun W => W.cell? ⟨gw, 0, none⟩ = some (iv y) ∧ W.cell? ⟨g6, 0, none⟩ = some (iv lo))) (by kernel_rfl) (by kernel_rfl) ?_
 have hHeld := HS.out _ HB0.out
 have hsz : ops62_5.size = 5 := by kernel_rfl
 have hrep : Array.replicate 5 false = #[false, false, false, false, false] := by kernel_rfl
 rw [hsz, hrep]
 clear e hsz hrep
 generalize V.drew = V0 at HB0 hHeld ⊢
 refine tk 0 (iv y) ?_
 refine tk 1 (.pointer (some ⟨g6, 0, none⟩)) ?_
 refine tk 2 (iv lo) ?_
 refine rd1 3 fun K' hK => ?_
 obtain ⟨b4, b5⟩ := H4.out _ HB0.out
 have n4 := b4.cell 0
 have f4 := b4.frozen 0
 have l4 := b4.lt
 go_simp
 have c4 := b4.set_ 0 (iv y)
 have c5 := b5.far (p := ⟨gw, 0, none⟩) hne (iv y)
 have hS1 : S5 gw g6 y lo (V0.setCell ⟨gw, 0, none⟩ (iv y)) := ⟨c4.cell 0, keepSet (HS.out _ HB0.out).2 h6w⟩
 refine hK.out _ _ hS1 (fun hHeld => ?_)
 clear n4 f4 l4 b4 b5
 clear hK
 refine rd1 4 fun K' hK => ?_
 have n5 := c5.cell 0
 have f5 := c5.frozen 0
 have l5 := c5.lt
 go_simp
 refine hK.out _ _ ⟨keepSet hS1.1 (fun e => hne e.symm), keepSet hS1.2 h6v⟩ (fun hHeld => ?_)
 clear n5 f5 l5
 clear hK
 refine wpAnyH_done (by kernel_rfl) ?_ _
 exact (HQ.out _ _ _ _ ⟨_, HB0.out, rfl⟩)
noncomputable def ops62_7 : Array Oper := opsOf (regionOf2 Tryz.f62 7)
theorem reg62_7 {Q : Exit → Act → World → Prop} {V : World} {m l2 : Nat} {g6 : Nat} {lo hi : Int} {z0 z1 z2 z3 z4 z5 z7 z8 z9 z10 z11 z12 z13 z14 z15 z16 z17 z18 z19 z20 z21 z22 z23 z24 z25 z26 z27 z28 z29 z30 z31 z32 z33 z34 z35 z36 z37 z38 z39 z40 z41 z42 z43 z44 z45 z46 z47 z48 z49 z50 z51 z52 z53 : Value} 
  (hS : ∀ W, BW V W → W.cell? ⟨g6, 0, none⟩ = some (iv lo) ∧ W.cell? ⟨g6, 1, none⟩ = some (iv hi))
  (hQ : ∀  u30 u31 u32 u33 wx, BW V wx → Q .normal ⟨#[z0, z1, z2, z3, z4, z5, .pointer (some ⟨g6, 0, none⟩), iv lo, iv hi, z9, z10, z11, z12, z13, z14, z15, z16, z17, z18, z19, z20, z21, z22, z23, z24, z25, z26, z27, z28, z29, u30, u31, u32, u33, z34, z35, z36, z37, z38, z39, z40, z41, z42, z43, z44, z45, z46, z47, z48, z49, z50, z51, z52, z53], []⟩ wx) :
  (regionOf2 Tryz.f62 7).wpIn (Fence.wide.inRound l2) m Tryz.prog Q ⟨#[z0, z1, z2, z3, z4, z5, .pointer (some ⟨g6, 0, none⟩), z7, z8, z9, z10, z11, z12, z13, z14, z15, z16, z17, z18, z19, z20, z21, z22, z23, z24, z25, z26, z27, z28, z29, z30, z31, z32, z33, z34, z35, z36, z37, z38, z39, z40, z41, z42, z43, z44, z45, z46, z47, z48, z49, z50, z51, z52, z53], []⟩ V := by
 have HS := Lq hS
 have HQ := Lq hQ
 have HB0 := Lq (belowDq (belowR V))
 clear hS hQ
 have e : regionOf2 Tryz.f62 7 = Code.region 7 ops62_7 true := by kernel_rfl
 rw [e]
 refine wpIn_region_lift (S := (fun W => W.cell? ⟨g6, 0, none⟩ = some (iv lo) ∧ W.cell? ⟨g6, 1, none⟩ = some (iv hi))) (by kernel_rfl) (by kernel_rfl) ?_
 have hHeld := HS.out _ HB0.out
 have hsz : ops62_7.size = 6 := by kernel_rfl
 have hrep : Array.replicate 6 false = #[false, false, false, false, false, false] := by kernel_rfl
 rw [hsz, hrep]
 clear e hsz hrep
 generalize V.drew = V0 at HB0 hHeld ⊢
 refine tk 0 (.pointer (some ⟨g6, 0, none⟩)) ?_
 refine tk 2 (.pointer (some ⟨g6, 1, none⟩)) ?_
 refine tk 1 (iv lo) ?_
 refine tk 3 (iv hi) ?_
 refine tk 4 (iv lo) ?_
 refine tk 5 (iv hi) ?_
 refine wpAnyH_done (by kernel_rfl) ?_ _
 exact (HQ.out _ _ _ _ _ HB0.out)
end Go.Proofs.YtmhjhbchokbonaaGreat
namespace Go.Proofs.YtmhjhbchokbonaaGreat
open Go.RowKit Go.Shelf
attribute [local go_sem] Oper.semAt_some
theorem firstL_skip {why : Int → Int} {L : List (Int × Int)} : ∀ {pre : List (Int × Int)}, (∀ p ∈ pre, why p.1 = 0 ∧ why p.2 = 0) → firstL why (pre ++ L) = firstL why L := by
 intro pre
 induction pre with
 | nil => intro _; rfl
 | cons p pre ih =>
  intro h
  obtain ⟨a, b⟩ := p
  obtain ⟨h1, h2⟩ := h (a, b) (by simp)
  simp only at h1 h2
  rw [List.cons_append, firstL, if_neg (by simpa using h1), if_pos h2]
  exact ih fun p hp => h p (by simp [hp])
theorem pieces_bd {hi : Int} : ∀ {L : List Int} {lo : Int}, L.Pairwise (· ≤ ·) → (∀ b ∈ L, lo ≤ b) → (∀ b ∈ L, b ≤ hi) → ∀ p ∈ piecesOf lo L, lo ≤ p.1 ∧ p.1 ≤ p.2 ∧ p.2 ≤ hi := by
 intro L
 induction L with
 | nil => intro lo _ _ _ p hp; simp [piecesOf] at hp
 | cons b L ih =>
  intro lo hs h1 h2 p hp
  rw [List.pairwise_cons] at hs
  rw [piecesOf] at hp
  have hb := h1 b (by simp)
  rcases List.mem_cons.1 hp with rfl | hp
  ·exact ⟨Int.le_refl _, hb, h2 b (by simp)⟩
  ·have := ih hs.2 hs.1 (fun x hx => h2 x (by simp [hx])) p hp
   omega
theorem halves_end {why : Int → Int} {lo hi : Int} (h : ¬ 1 < hi - lo) : ∀ n, halves why n lo hi = hi := by
 intro n
 cases n with
 | zero => rfl
 | succ n => rw [halves, if_neg h]
structure FirI (W0 : World) (gw gv : Nat) (x v : Int) (W : World) : Prop where
 os : W.os = W0.os
 tape : W.tape = W0.tape
 output : W.output = W0.output
 keep : KeepM (fun k => k = gw ∨ k = gv) W0 W
 bw : Blk W gw 3 #[iv x]
 bv : Blk W gv 3 #[iv v]
theorem FirI.below {W0 W X : World} {gw gv B : Nat} {x v : Int} (h : FirI W0 gw gv x v W) (hb : Below B W X) (hB : W0.heap.size ≤ B) (h1 : gw < B) (h2 : gv < B) : FirI W0 gw gv x v X :=
 ⟨hb.os.trans h.os, hb.tape.trans h.tape, hb.output.trans h.output, ⟨Nat.le_trans h.keep.size hb.size, fun k hk hl => (hb.block k (by omega)).trans (h.keep.same k hk hl)⟩, h.bw.same (hb.block _ h1), h.bv.same (hb.block _ h2)⟩
theorem FirI.setw {W0 W : World} {gw gv : Nat} {x v : Int} (h : FirI W0 gw gv x v W) (hne : gv ≠ gw) (y : Int) : FirI W0 gw gv y v (W.setCell ⟨gw, 0, none⟩ (iv y)) :=
 ⟨h.os, h.tape, h.output, h.keep.trans (KeepM.set_ W (iv y) (.inl rfl)), h.bw.set_ 0 _, h.bv.far (by exact hne) _⟩
theorem FirI.setv {W0 W : World} {gw gv : Nat} {x v : Int} (h : FirI W0 gw gv x v W) (hne : gv ≠ gw) (y : Int) : FirI W0 gw gv x y (W.setCell ⟨gv, 0, none⟩ (iv y)) :=
 ⟨h.os, h.tape, h.output, h.keep.trans (KeepM.set_ W (iv y) (.inr rfl)), h.bw.far (by exact fun e => hne e.symm) _, h.bv.set_ 0 _⟩
theorem FirI.fin {w W0 W : World} {gw gv : Nat} {x v : Int} (h : FirI W0 gw gv x v W) (hb : BW w W0) (h1 : w.heap.size ≤ gw) (h2 : w.heap.size ≤ gv) : BW w W :=
 ⟨h.os.trans hb.os, h.tape.trans hb.tape, h.output.trans hb.output, Nat.le_trans hb.size h.keep.size, fun k hk => (h.keep.same k (by omega) (Nat.lt_of_lt_of_le hk hb.size)).trans (hb.block k hk)⟩
theorem H5Rd.keepM {w w' : World} {B gw gv : Nat} {h : StH} {A : Option Addr} {cap : Nat} (H : H5Rd w B h A cap) (hk : KeepM (fun k => k = gw ∨ k = gv) w w') (hB : B ≤ w.heap.size) (h1 : B ≤ gw) (h2 : B ≤ gv) : H5Rd w' B h A cap :=
 ⟨H.ps.keep fun p hp => World.cell?_of_block (hk.same p.block (by omega) (by omega)), H.pl, H.pm, H.nm⟩
theorem first62_any (h : StH) (A : Option Addr) (B cap : Nat) (lo hi : Int) (w : World) (hH : H5Rd w B h A cap) (hB : B ≤ w.heap.size) (hk : H5Ok h) (h0 : 0 ≤ lo) (h1 : lo ≤ hi) (h2 : hi ≤ 1000) :
  Calls Tryz.prog 62 #[h5V h A cap, .agg #[iv lo, iv hi]] w fun e w' => e = .returned (.tuple #[iv (firstL (whyH h) (piecesOf lo (bendsL h lo hi))).1, iv (firstL (whyH h) (piecesOf lo (bendsL h lo hi))).2]) ∧ BW w w' := by
 obtain ⟨gt, hgt⟩ := ex (w.heap.size + 1)
 obtain ⟨gw, hgw⟩ := ex (gt + 1)
 obtain ⟨gv, hgv⟩ := ex (gw + 1)
 obtain ⟨W1, hW1⟩ := ex (((((w.alloc (.cells #[.slice A h.ps.length cap, iv h.aft, iv h.fore] 119)).alloc (.cells #[iv lo, iv hi] 36)).alloc (.cells #[iv 0] 3)).alloc (.cells #[iv 0] 3)))
 have hbW1 : BW w W1 := by rw [← hW1]; exact (belowA (belowA (belowA (belowA (belowR _) _) _) _) _)
 have hzW1 : W1.heap.size = w.heap.size + 4 := by rw [← hW1]; simp
 have k0 : Blk W1 w.heap.size 119 #[.slice A h.ps.length cap, iv h.aft, iv h.fore] := by
  rw [← hW1]
  exact (((Blk.new w 119 #[.slice A h.ps.length cap, iv h.aft, iv h.fore]).alloc (.cells #[iv lo, iv hi] 36)).alloc (.cells #[iv 0] 3)).alloc (.cells #[iv 0] 3)
 have k1 : Blk W1 gt 36 #[iv lo, iv hi] := by
  rw [← hW1, ← hgt]
  have := ((Blk.new (w.alloc (.cells #[.slice A h.ps.length cap, iv h.aft, iv h.fore] 119)) 36 #[iv lo, iv hi]).alloc (.cells #[iv 0] 3)).alloc (.cells #[iv 0] 3)
  rw [World.size_alloc] at this
  exact this
 have k2 : Blk W1 gw 3 #[iv 0] := by
  rw [← hW1, ← hgw, ← hgt]
  have := (Blk.new ((w.alloc (.cells #[.slice A h.ps.length cap, iv h.aft, iv h.fore] 119)).alloc (.cells #[iv lo, iv hi] 36)) 3 #[iv 0]).alloc (.cells #[iv 0] 3)
  rw [World.size_alloc, World.size_alloc] at this
  exact this
 have k3 : Blk W1 gv 3 #[iv 0] := by
  rw [← hW1, ← hgv, ← hgw, ← hgt]
  have := Blk.new (((w.alloc (.cells #[.slice A h.ps.length cap, iv h.aft, iv h.fore] 119)).alloc (.cells #[iv lo, iv hi] 36)).alloc (.cells #[iv 0] 3)) 3 #[iv 0]
  rw [World.size_alloc, World.size_alloc, World.size_alloc] at this
  exact this
 have hbd := bendsL_ok h h1
 have HPB : Hid (∀ p ∈ piecesOf lo (bendsL h lo hi), 0 ≤ p.1 ∧ p.1 ≤ p.2 ∧ p.2 ≤ 1000) := Lq fun p hp => by have := pieces_bd hbd.sorted hbd.ge hbd.le p hp; omega
 have HH1 := Lq (hH.below hbW1 hB)
 have HKO := Lq hk
 have n10 := hk.n10
 have HB1 := Lq hbW1
 have K0 := Lq k0
 have K1 := Lq k1
 have K2 := Lq k2
 have K3 := Lq k3
 have p0 := k0.c 0
 have p1 := k0.c 1
 have p2 := k0.c 2
 have r0 := k1.c 0
 have r1 := k1.c 1
 obtain ⟨bb, hbb⟩ := ex (gv + 1)
 obtain ⟨tb, htb⟩ := ex (bb + 1)
 have hz1 : W1.heap.size = bb := by omega
 have hbe := bends68_any A h.ps.length cap h.aft h.fore lo hi W1
 rw [hz1, htb] at hbe
 have HBE := Lq hbe
 clear hzW1 hbe hH hk hbW1 k0 k1 k2 k3 hbd h0 h1 h2
 refine (callsIn_wide (n := 0)).1 ?_
 refine callsIn_of_wp_marks Tryz.func62 rfl trivial ?_ rfl
 simp only [Tryz.ntmps62, List.size_toArray, List.length_cons, List.length_nil, Nat.reduceAdd, Nat.reduceSub, Array.replicate_succ, Array.replicate_zero, List.push_toArray, List.append_toArray, List.nil_append, List.cons_append]
 gi_wp2_with (first | refine wpIn_scope ?_ | refine wpIn_label ?_)
 refine ⟨trivial, rfl, (callsIn_wide.2 HBE.out).mono ?_⟩
 rintro e w5 ⟨rfl, rfl⟩
 obtain ⟨W0, hW0⟩ := ex ((W1.alloc (.cells #[.slice A h.ps.length cap, iv h.aft, iv h.fore] 119)).alloc (.cells #[iv lo, iv hi] 36))
 have hb0 : BW W1 W0 := by rw [← hW0]; exact belowA (belowA (belowR _) _) _
 have kbb : Blk W0 bb 119 #[.slice A h.ps.length cap, iv h.aft, iv h.fore] := by rw [← hW0, ← hz1]; exact (Blk.new W1 119 _).alloc _
 have ktb : Blk W0 tb 36 #[iv lo, iv hi] := by
  rw [← hW0, ← htb, ← hz1]
  have := Blk.new (W1.alloc (.cells #[.slice A h.ps.length cap, iv h.aft, iv h.fore] 119)) 36 #[iv lo, iv hi]
  rw [World.size_alloc] at this
  exact this
 have HH0 := Lq (HH1.out.below hb0 (by omega))
 have HBW := Lq (belowT HB1.out hb0)
 have hF0 : FirI W0 gw gv 0 0 W0 := ⟨rfl, rfl, rfl, KeepM.refl _ _, K2.out.same (hb0.block _ K2.out.lt), K3.out.same (hb0.block _ K3.out.lt)⟩
 have K00 := Lq (K0.out.same (hb0.block _ K0.out.lt))
 have HI0 := Lq hF0
 have HLOOP : Hid (Blk W0 tb 36 #[iv lo, iv hi] ∧ Blk W0 bb 119 #[.slice A h.ps.length cap, iv h.aft, iv h.fore]) := Lq ⟨ktb, kbb⟩
 have hz0 : tb < W0.heap.size := ktb.lt
 rw [hW0]
 have HLE : Hid (∀ (wt : Int) (V : World), KeepM (fun k => k = gw ∨ k = gv) W0 V → 0 ≤ wt → wt ≤ 1000 → Calls Tryz.prog 59 #[h5V h A cap, iv wt] V (Rt V (sumsV (leastK h 0 wt) (leastK h 1 wt) (leastK h 2 wt)))) := Lq fun wt V hk a b => least59_any h A B cap wt V (HH0.out.keepM hk (by omega) (by omega) (by omega)) (by have := hk.size; omega) HKO.out a b
 have HWY : Hid (∀ (wt : Int) (V : World), Calls Tryz.prog 63 #[sumsV (leastK h 0 wt) (leastK h 1 wt) (leastK h 2 wt)] V (Rt V (iv (whyH h wt)))) := Lq fun wt V => why63_any _ _ _ V
 have HCB : Hid (∀ V, KeepM (fun k => k = gw ∨ k = gv) W0 V → V.cell? ⟨w.heap.size, 0, none⟩ = some (.slice A h.ps.length cap) ∧ V.cell? ⟨w.heap.size, 1, none⟩ = some (iv h.aft) ∧ V.cell? ⟨w.heap.size, 2, none⟩ = some (iv h.fore)) := Lq fun V hk => ⟨hk.cell (K00.out.cell 0) (by omega), hk.cell (K00.out.cell 1) (by omega), hk.cell (K00.out.cell 2) (by omega)⟩
 clear hW0 hb0 kbb ktb hF0 K0 K1 K2 K3 HH1 HB1 HBE hW1 p0 p1 p2 r0 r1
 obtain ⟨wy, hwy⟩ := ex (whyH h)
 rw [hwy] at HWY
 obtain ⟨ALL, hALL⟩ := ex (piecesOf lo (bendsL h lo hi))
 have hFIN : ∀ (e : Ending) (w' : World), e = .returned (.tuple #[iv (firstL wy ALL).1, iv (firstL wy ALL).2]) ∧ BW w w' → e = .returned (.tuple #[iv (firstL (whyH h) (piecesOf lo (bendsL h lo hi))).1, iv (firstL (whyH h) (piecesOf lo (bendsL h lo hi))).2]) ∧ BW w w' := fun e w' hx => by rw [hwy, hALL]; exact hx
 have HFIN := Lq hFIN
 rw [hALL] at HPB
 have HALL := Lq hALL
 clear hwy hFIN hALL
 gi_wp2_with fail
 refine rangeFunc_bends 0 (fun k => k = gw ∨ k = gv) tb bb h A B cap lo hi rfl HLOOP.out.1 HLOOP.out.2 HH0.out.ps (by omega) n10 (fun k hk => by omega)
  (fun pre W => (∃ x v, FirI W0 gw gv x v W) ∧ ∀ p ∈ pre, wy p.1 = 0 ∧ wy p.2 = 0) (fun _ W => FirI W0 gw gv (firstL wy ALL).1 (firstL wy ALL).2 W) ?_ ?_ ⟨⟨0, 0, HI0.out⟩, fun p hp => by cases hp⟩ ?_ ?_ ?_
 ·rintro s X Y ⟨⟨x, v, hX⟩, ha⟩ hb
  exact ⟨⟨x, v, hX.below hb (Nat.le_refl _) (by omega) (by omega)⟩, ha⟩
 ·exact fun s X Y hX hb => hX.below hb (Nat.le_refl _) (by omega) (by omega)
 ·intro m l2 pre s W hI hpre hsz
  rw [HALL.out] at hpre
  obtain ⟨a, b⟩ := s
  simp only
  have hpb := HPB.out (a, b) (hpre.subset (by simp))
  simp only at hpb
  gi_wp2
  refine ⟨belowA (belowR _) _, ?_⟩
  rintro W2 ⟨⟨x0, v0, hF⟩, hall⟩ hg2 hs2
  obtain ⟨f6, hf6⟩ := ex W.heap.size
  have b6 : Blk W2 f6 36 #[iv a, iv b] := by
   rw [← hf6]
   exact (Blk.new W 36 #[iv a, iv b]).grown hg2 (fun e => by injection e with e; omega)
  have hf6' : W0.heap.size + 2 < f6 := by omega
  rw [hf6]
  have hrest : ∃ r, ALL = pre ++ (a, b) :: r := by obtain ⟨r, hr⟩ := hpre; exact ⟨r, by rw [← hr]; simp⟩
  obtain ⟨r, hr⟩ := hrest
  have hfl : firstL wy ALL = if wy a ≠ 0 then (wy a, a) else if wy b = 0 then firstL wy r else (wy (halves wy 1001 a b), halves wy 1001 a b) := by rw [hr, firstL_skip hall]; rfl
  have HFL := Lq hfl
  have HALLP := Lq hall
  have HK2 := Lq hF.keep
  have HFI := Lq hF
  have B6 := Lq b6
  have hz2 := hF.keep.size
  have hlt6 := b6.lt
  have HVK : Hid (∀ V, KeepM (fun k => k = gw ∨ k = gv) W2 V → V.cell? ⟨f6, 0, none⟩ = some (iv a) ∧ V.cell? ⟨f6, 1, none⟩ = some (iv b)) := Lq fun V hk => ⟨hk.cell (b6.cell 0) (by omega), hk.cell (b6.cell 1) (by omega)⟩
  clear hI hpre hg2 hs2 hall hr hfl hF b6 hf6 hsz
  obtain ⟨p0, p1, p2⟩ := HCB.out W2 HK2.out
  obtain ⟨y6, y7⟩ := HVK.out W2 (KeepM.refl _ _)
  gi_wp2_with fail
  refine ⟨trivial, hdd _, (CallsIn.inRound l2 (callsIn_wide.2 (HLE.out a W2 HK2.out hpb.1 (by omega)))).mono ?_⟩
  rintro e x1 ⟨rfl, hb1⟩
  clear p0 p1 p2 y6 y7
  have X1 := Lq hb1
  clear hb1
  gi_wp2_with fail
  refine ⟨trivial, hdd _, (CallsIn.inRound l2 (callsIn_wide.2 (HWY.out a x1))).mono ?_⟩
  rintro e x2 ⟨rfl, hb2⟩
  have X2 := Lq (belowT X1.out hb2)
  have hF2 := HFI.out.below X2.out hz2 (by omega) (by omega)
  have z0 := hF2.bw.cell 0
  have zf := hF2.bw.frozen 0
  have zl := hF2.bw.lt
  obtain ⟨YA, hYA⟩ := ex (wy a)
  obtain ⟨x3, hx3⟩ := ex (x2.setCell ⟨gw, 0, none⟩ (iv YA))
  have hF3 : FirI W0 gw gv YA v0 x3 := by rw [← hx3]; exact hF2.setw (by omega) YA
  have hK3 : KeepM (fun k => k = gw ∨ k = gv) W2 x3 := by rw [← hx3]; exact (KeepM.of_below X2.out).trans (KeepM.set_ x2 (iv YA) (.inl rfl))
  have z3 := hF3.bw.cell 0
  rw [hYA] at HFL ⊢
  have HYA := Lq hYA
  have HF3 := Lq hF3
  have HK3 := Lq hK3
  clear hb2 hF2 hYA hF3 hK3 HFI X1 X2
  by_cases hya : YA = 0
  ·subst hya
   have hdy : ((0 : Int) != 0) = false := rfl
   obtain ⟨p0, p1, p2⟩ := HCB.out x3 (HK2.out.trans HK3.out)
   obtain ⟨_, y7⟩ := HVK.out x3 HK3.out
   simp only [List.getElem?_toArray, List.getElem?_cons_zero] at z0 z3
   gi_wp2_with fail
   refine ⟨trivial, hdd _, (CallsIn.inRound l2 (callsIn_wide.2 (HLE.out b x3 (HK2.out.trans HK3.out) (by omega) hpb.2.2))).mono ?_⟩
   rintro e x4 ⟨rfl, hb1⟩
   clear p0 p1 p2
   have X1 := Lq hb1
   clear hb1
   gi_wp2_with fail
   refine ⟨trivial, hdd _, (CallsIn.inRound l2 (callsIn_wide.2 (HWY.out b x4))).mono ?_⟩
   rintro e x5 ⟨rfl, hb2⟩
   have X2 := Lq (belowT X1.out hb2)
   clear hb2 X1
   have hF5 := HF3.out.below X2.out (by have := HK3.out.size; omega) (by have := HF3.out.bw.lt; omega) (by have := HF3.out.bv.lt; omega)
   have hK5 : KeepM (fun k => k = gw ∨ k = gv) W2 x5 := HK3.out.trans (KeepM.of_below X2.out)
   have HF5 := Lq hF5
   have HK5 := Lq hK5
   obtain ⟨YB, hYB⟩ := ex (wy b)
   rw [hYB] at HFL ⊢
   have HYB := Lq hYB
   clear hF5 hK5 hYB y7 z0 zf z3 hx3 X2 HF3 HK3
   by_cases hyb : YB = 0
   ·subst hyb
    have hdz : ((0 : Int) == 0) = true := rfl
    gi_wp2_with fail
    refine ⟨HK5.out, ⟨0, v0, HF5.out⟩, fun p hp => ?_⟩
    rcases List.mem_append.1 hp with hp | hp
    ·exact HALLP.out p hp
    ·rw [List.mem_singleton.1 hp]; exact ⟨HYA.out, HYB.out⟩
   ·have hdz : (YB == 0) = false := by simpa using hyb
    have hfl2 : firstL wy ALL = (wy (halves wy 1001 a b), halves wy 1001 a b) := by rw [HFL.out, if_neg (by simp), if_neg hyb]
    obtain ⟨HH, hHH⟩ := ex (halves wy 1001 a b)
    rw [hHH] at hfl2
    have HFL2 := Lq hfl2
    have HST := Lq hHH
    have HPA : Hid (0 ≤ a ∧ a ≤ b ∧ b ≤ 1000) := Lq hpb
    clear hfl2 hHH HFL hpb hyb
    gi_wp2_with fail
    refine reg62_7 (lo := a) (hi := b) (fun W hb => HVK.out W (HK5.out.trans (KeepM.of_below hb))) ?_
    intro u101 u102 u103 u104 x6 hb6
    have HF6 : Hid (FirI W0 gw gv 0 v0 x6) := Lq (HF5.out.below hb6 (by have := HK5.out.size; omega) (by have := HF5.out.bw.lt; omega) (by have := HF5.out.bv.lt; omega))
    have HK6 : Hid (KeepM (fun k => k = gw ∨ k = gv) W2 x6) := Lq (HK5.out.trans (KeepM.of_below hb6))
    clear hb6 HF5 HK5
    gi_wp2_with fail
    gi_loopw [7, 8] (fun va vb wr => ∃ (n : Nat) (a' b' : Int), va = iv a' ∧ vb = iv b' ∧ a ≤ a' ∧ a' ≤ b' ∧ b' ≤ b ∧ b' - a' ≤ (n : Int) + 1 ∧ Hid (halves wy n a' b' = HH) ∧ Hid (FirI W0 gw gv 0 v0 wr) ∧ Hid (KeepM (fun k => k = gw ∨ k = gv) W2 wr)) (fun va vb _ => ((intOf vb) - (intOf va)).toNat)
    case atStart => exact ⟨1001, a, b, rfl, rfl, by omega, HPA.out.2.1, by omega, by have := HPA.out; omega, HST, HF6, HK6⟩
    case round =>
     clear HST HF6 HK6
     obtain ⟨n, a', b', rfl, rfl, q1, q2, q3, q4, HST, HF6, HK6⟩ := hrel
     have hpa := HPA.out
     have hsw : IntKind.i64.wrap (b' - a') = b' - a' := by rw [IntKind.wrap_i64]; omega
     have haw : IntKind.i64.wrap (a' + b') = a' + b' := by rw [IntKind.wrap_i64]; omega
     have hdv : (a' + b').tdiv 2 = (a' + b') / 2 := Int.tdiv_eq_ediv_of_nonneg (by omega)
     have hqw : IntKind.i64.wrap ((a' + b').tdiv 2) = (a' + b').tdiv 2 := by rw [IntKind.wrap_i64, hdv]; omega
     have hz6 := HK6.out.size
     by_cases hgt2 : 1 < b' - a'
     ·obtain ⟨n', rfl⟩ : ∃ k, n = k + 1 := ⟨n - 1, by omega⟩
      have hst := HST.out
      rw [halves, if_pos hgt2] at hst
      obtain ⟨mid, hmid⟩ := ex ((a' + b').tdiv 2)
      rw [hmid] at hst hqw hdv
      have hmb : a' < mid ∧ mid < b' := by omega
      obtain ⟨YM, hYM⟩ := ex (wy mid)
      rw [hYM] at hst
      have HST2 := Lq hst
      have HYM := Lq hYM
      obtain ⟨p0, p1, p2⟩ := HCB.out wr (HK2.out.trans HK6.out)
      have hdg : decide (1 < b' - a') = true := decide_eq_true hgt2
      clear hst hYM HST hdv
      gi_wp2_with fail
      refine ⟨trivial, hdd _, (CallsIn.inRound l2 (callsIn_wide.2 (HLE.out mid wr (HK2.out.trans HK6.out) (by omega) (by omega)))).mono ?_⟩
      rintro e x7 ⟨rfl, hb1⟩
      clear p0 p1 p2
      have X1 := Lq hb1
      clear hb1
      gi_wp2_with fail
      refine ⟨trivial, hdd _, (CallsIn.inRound l2 (callsIn_wide.2 (HWY.out mid x7))).mono ?_⟩
      rintro e x8 ⟨rfl, hb2⟩
      have X2 := Lq (belowT X1.out hb2)
      clear hb2 X1
      have HF8 : Hid (FirI W0 gw gv 0 v0 x8) := Lq (HF6.out.below X2.out (by omega) (by have := HF6.out.bw.lt; omega) (by have := HF6.out.bv.lt; omega))
      have HK8 : Hid (KeepM (fun k => k = gw ∨ k = gv) W2 x8) := Lq (HK6.out.trans (KeepM.of_below X2.out))
      rw [HYM.out]
      clear X2
      by_cases hym : YM = 0
      ·subst hym
       have hdm : ((0 : Int) == 0) = true := rfl
       gi_wp2_with fail
       go_roundw
       case rel => exact ⟨n', mid, b', rfl, rfl, by omega, by omega, by omega, by omega, Lq (by have := HST2.out; rwa [if_pos trivial] at this), HF8, HK8⟩
       case measure => simp [intOf]; omega
      ·have hdm : (YM == 0) = false := by simpa using hym
       gi_wp2_with fail
       go_roundw
       case rel => exact ⟨n', a', mid, rfl, rfl, by omega, by omega, by omega, by omega, Lq (by have := HST2.out; rwa [if_neg hym] at this), HF8, HK8⟩
       case measure => simp [intOf]; omega
     ·have hdg : decide (1 < b' - a') = false := decide_eq_false hgt2
      have hbe : b' = HH := by have := HST.out; rwa [halves_end hgt2] at this
      obtain ⟨p0, p1, p2⟩ := HCB.out wr (HK2.out.trans HK6.out)
      have HBE2 := Lq hbe
      clear HST hbe hdv hqw haw
      gi_wp2_with fail
      refine ⟨trivial, hdd _, (CallsIn.inRound l2 (callsIn_wide.2 (HLE.out b' wr (HK2.out.trans HK6.out) (by omega) (by omega)))).mono ?_⟩
      rintro e x7 ⟨rfl, hb1⟩
      clear p0 p1 p2
      have X1 := Lq hb1
      clear hb1
      gi_wp2_with fail
      refine ⟨trivial, hdd _, (CallsIn.inRound l2 (callsIn_wide.2 (HWY.out b' x7))).mono ?_⟩
      rintro e x8 ⟨rfl, hb2⟩
      have X2 := Lq (belowT X1.out hb2)
      clear hb2 X1
      have hF8 : FirI W0 gw gv 0 v0 x8 := HF6.out.below X2.out (by omega) (by have := HF6.out.bw.lt; omega) (by have := HF6.out.bv.lt; omega)
      have hK8 : KeepM (fun k => k = gw ∨ k = gv) W2 x8 := HK6.out.trans (KeepM.of_below X2.out)
      obtain ⟨YE, hYE⟩ := ex (wy b')
      rw [hYE]
      have z0 := hF8.bw.c 0
      have zf := hF8.bw.frozen 0
      have zl := hF8.bw.lt
      have y0 := hF8.bv.c 0
      have yf := hF8.bv.frozen 0
      have yl := hF8.bv.lt
      have HF8 := Lq hF8
      have HK8 := Lq hK8
      have HYE := Lq hYE
      clear hF8 hK8 hYE X2
      gi_wp2_with fail
      refine ⟨(HK8.out.trans (KeepM.set_ x8 (iv YE) (.inl rfl))).trans (KeepM.set_ _ (iv b') (.inr rfl)), ?_⟩
      simp only [HFL2.out]
      have := (HF8.out.setw (show gv ≠ gw by omega) YE).setv (show gv ≠ gw by omega) b'
      rw [← HBE2.out, HYE.out]
      exact this
  ·have hdy : (YA != 0) = true := by simpa using hya
   have hrs : firstL wy ALL = (YA, a) := by rw [HFL.out, if_pos hya]
   have HRS := Lq hrs
   clear hrs HFL
   simp only [List.getElem?_toArray, List.getElem?_cons_zero] at z0 z3
   gi_wp2_with fail
   refine reg62_5 (y := YA) (lo := a) (x := v0) (by omega) (by omega) (by omega) (fun W hb => ⟨HF3.out.bw.same (hb.block _ HF3.out.bw.lt), HF3.out.bv.same (hb.block _ HF3.out.bv.lt)⟩) (fun W hb => ⟨(HF3.out.bw.same (hb.block _ HF3.out.bw.lt)).cell 0, (HVK.out W (HK3.out.trans (KeepM.of_below hb))).1⟩) ?_
   intro u101 u102 u103 wx hwx
   obtain ⟨V0, hbV, rfl⟩ := hwx
   have hF9 := HF3.out.below hbV (by have := HK3.out.size; omega) (by have := HF3.out.bw.lt; omega) (by have := HF3.out.bv.lt; omega)
   have HF9 := Lq ((hF9.setw (show gv ≠ gw by omega) YA).setv (show gv ≠ gw by omega) a)
   have HK9 : Hid (KeepM (fun k => k = gw ∨ k = gv) W2 ((V0.setCell ⟨gw, 0, none⟩ (iv YA)).setCell ⟨gv, 0, none⟩ (iv a))) := Lq (((HK3.out.trans (KeepM.of_below hbV)).trans (KeepM.set_ V0 (iv YA) (.inl rfl))).trans (KeepM.set_ _ (iv a) (.inr rfl)))
   clear hF9 hbV z0 zf z3 hx3
   gi_wp2_with fail
   refine ⟨HK9.out, ?_⟩
   simp only [HRS.out]
   exact HF9.out
 ·intro W hI hsz hD
  rw [HALL.out] at hI
  obtain ⟨⟨x, v, hF⟩, hall⟩ := hI
  have hres : firstL wy ALL = (0, 0) := by have := firstL_skip (L := []) hall; rw [List.append_nil] at this; rw [this]; rfl
  have z0 := hF.bw.c 0
  have zf := hF.bw.frozen 0
  have zl := hF.bw.lt
  have y0 := hF.bv.c 0
  have yf := hF.bv.frozen 0
  have yl := hF.bv.lt
  have HF := Lq hF
  have HD := Lq hD
  have HRES := Lq hres
  have hgl : gv < W0.heap.size ∧ gw < W0.heap.size := by omega
  clear hF hall hD hres HI0 HLOOP HCB HLE HWY HPB
  gi_wp2_with fail
  obtain ⟨WX, hWX⟩ := ex ((W.setCell ⟨gw, 0, none⟩ (iv 0)).setCell ⟨gv, 0, none⟩ (iv 0))
  have hFX : FirI W0 gw gv 0 0 WX := by rw [← hWX]; exact (HF.out.setw (show gv ≠ gw by omega) 0).setv (show gv ≠ gw by omega) 0
  have HD2 : Hid (WX.heap[W0.heap.size]? = some (.deferred (some []))) := Lq (by
   rw [← hWX]
   exact (Below.heap_setCell _ _ _ _ (by simp only; omega)).trans ((Below.heap_setCell _ _ _ _ (by simp only; omega)).trans HD.out))
  have HFX := Lq hFX
  rw [hWX]
  clear hWX hFX z0 zf zl y0 yf yl
  refine ⟨by simp, .inl ⟨_, _, rfl, run_takeDeferred HD2.out, ?_⟩⟩
  have hFY := (HFX.out.below (below_putObj WX (Nat.le_refl W0.heap.size) (.deferred none)) (Nat.le_refl _) hgl.2 hgl.1)
  have y3 := hFY.bw.c 0
  have y4 := hFY.bv.c 0
  exact ⟨.tuple #[iv 0, iv 0], by simp [results, Tryz.results62, go_sem, y3, y4], HFIN.out _ _ ⟨by rw [HRES.out], FirI.fin hFY HBW.out (by omega) (by omega)⟩⟩
 ·intro pre W hpre hF hsz hD
  obtain ⟨R, hR⟩ := ex (firstL wy ALL)
  rw [hR] at hF
  have HFX := Lq hF
  have HD2 := Lq hD
  have HRES := Lq hR
  have hgl : gv < W0.heap.size ∧ gw < W0.heap.size := by omega
  clear hF hD hR HI0 HLOOP HCB HLE HWY HPB hpre
  gi_wp2_with fail
  refine ⟨by simp, .inl ⟨_, _, rfl, run_takeDeferred HD2.out, ?_⟩⟩
  have hFY := (HFX.out.below (below_putObj W (Nat.le_refl W0.heap.size) (.deferred none)) (Nat.le_refl _) hgl.2 hgl.1)
  have y3 := hFY.bw.c 0
  have y4 := hFY.bv.c 0
  exact ⟨.tuple #[iv R.1, iv R.2], by simp [results, Tryz.results62, go_sem, y3, y4], HFIN.out _ _ ⟨by rw [HRES.out], FirI.fin hFY HBW.out (by omega) (by omega)⟩⟩
end Go.Proofs.YtmhjhbchokbonaaGreat
namespace Go.Proofs.YtmhjhbchokbonaaGreat
open Go.RowKit
def firstH (h : StH) (lo hi : Int) : Int × Int := firstL (whyH h) (piecesOf lo (bendsL h lo hi))
theorem why16_any (h : StH) (A : Option Addr) (B cap : Nat) (lo hi : Int) (w : World) (hH : H5Rd w B h A cap) (hB : B ≤ w.heap.size) (hc : chk5 h = (0, 0, 0)) (h0 : 0 ≤ lo) (h1 : lo ≤ hi) (h2 : hi ≤ 1000) :
  Calls Tryz.prog 16 #[h5V h A cap, .agg #[iv lo, iv hi]] w (Rt w (ret3 ((firstH h lo hi).1, (firstH h lo hi).2, 0))) := by
 have hok := (chk5_iff.1 (by rw [hc])).1
 obtain ⟨gt, hgt⟩ := ex (w.heap.size + 1)
 obtain ⟨W1, hW1⟩ := ex (((w.alloc (.cells #[.slice A h.ps.length cap, iv h.aft, iv h.fore] 24)).alloc (.cells #[iv lo, iv hi] 36)))
 have hbW1 : BW w W1 := by rw [← hW1]; exact (belowA (belowA (belowR _) _) _)
 have hzW1 : W1.heap.size = w.heap.size + 2 := by rw [← hW1]; simp
 have k0 : Blk W1 w.heap.size 24 #[.slice A h.ps.length cap, iv h.aft, iv h.fore] := by
  rw [← hW1]
  exact (Blk.new w 24 #[.slice A h.ps.length cap, iv h.aft, iv h.fore]).alloc (.cells #[iv lo, iv hi] 36)
 have k1 : Blk W1 gt 36 #[iv lo, iv hi] := by
  rw [← hW1, ← hgt]
  have := Blk.new (w.alloc (.cells #[.slice A h.ps.length cap, iv h.aft, iv h.fore] 24)) 36 #[iv lo, iv hi]
  rw [World.size_alloc] at this
  exact this
 have hck := check60_any h A B cap W1 (hH.below hbW1 hB) (by omega)
 rw [hc] at hck
 have HCK := Lq hck
 have HTI := Lq fun W => tidal61_any lo hi W h0 h1 h2
 have HFI := Lq (fun V (hb : BW W1 V) => first62_any h A B cap lo hi V ((hH.below hbW1 hB).below hb (by omega)) (by have := hb.size; omega) hok h0 h1 h2)
 have HB1 := Lq hbW1
 have HC : Hid (∀ V, BW W1 V → Blk V w.heap.size 24 #[.slice A h.ps.length cap, iv h.aft, iv h.fore] ∧ Blk V gt 36 #[iv lo, iv hi]) := Lq fun V hb => ⟨k0.same (hb.block _ k0.lt), k1.same (hb.block _ k1.lt)⟩
 have p0 := k0.c 0
 have p1 := k0.c 1
 have p2 := k0.c 2
 clear hH hc hok hbW1 k0 k1 h0 h1 h2 hck
 go_enter Tryz.func16, Tryz.ntmps16
 go_wp2_with fail
 refine HCK.out.mono ?_
 rintro e w2 ⟨rfl, hb2⟩
 have X2 := Lq hb2
 have r0 := (HC.out _ hb2).2.c 0
 have r1 := (HC.out _ hb2).2.c 1
 clear hb2 p0 p1 p2 hW1 HCK
 unfold ret3
 go_wp2_with fail
 refine (HTI.out _).mono ?_
 rintro e w3 ⟨rfl, hb3⟩
 have X3 := Lq (belowT X2.out hb3)
 have p0 := (HC.out _ X3.out).1.c 0
 have p1 := (HC.out _ X3.out).1.c 1
 have p2 := (HC.out _ X3.out).1.c 2
 have r0 := (HC.out _ X3.out).2.c 0
 have r1 := (HC.out _ X3.out).2.c 1
 clear hb3
 go_wp2_with fail
 refine (HFI.out _ X3.out).mono ?_
 rintro e w4 ⟨rfl, hb4⟩
 have X4 := Lq (belowT X3.out hb4)
 clear hb4 p0 p1 p2 r0 r1
 go_wp2_with fail
 go_ret3
 exact ⟨rfl, belowT HB1.out X4.out⟩
theorem tide27_any (h : StH) (A : Option Addr) (B cap : Nat) (w : World) (hH : H5Rd w B h A cap) (hB : B ≤ w.heap.size) (hc : chk5 h = (0, 0, 0)) (hf : firstH h 0 1000 = (3, 134)) :
  Calls Tryz.prog 27 #[h5V h A cap] w (Rt w (.tuple #[iv 133, iv 0])) := by
 have hok := (chk5_iff.1 (by rw [hc])).1
 obtain ⟨W1, hW1⟩ := ex ((w.alloc (.cells #[.slice A h.ps.length cap, iv h.aft, iv h.fore] 24)))
 have hbW1 : BW w W1 := by rw [← hW1]; exact (belowA (belowR _) _)
 have hzW1 : W1.heap.size = w.heap.size + 1 := by rw [← hW1]; simp
 have k0 : Blk W1 w.heap.size 24 #[.slice A h.ps.length cap, iv h.aft, iv h.fore] := by
  rw [← hW1]
  exact Blk.new w 24 #[.slice A h.ps.length cap, iv h.aft, iv h.fore]
 have hck := check60_any h A B cap W1 (hH.below hbW1 hB) (by omega)
 rw [hc] at hck
 have HCK := Lq hck
 have hfi := fun V (hb : BW W1 V) => first62_any h A B cap 0 1000 V ((hH.below hbW1 hB).below hb (by omega)) (by have := hb.size; omega) hok (by omega) (by omega) (by omega)
 have hf' : firstL (whyH h) (piecesOf 0 (bendsL h 0 1000)) = (3, 134) := hf
 rw [hf'] at hfi
 have HFI := Lq hfi
 have HB1 := Lq hbW1
 have HC : Hid (∀ V, BW W1 V → Blk V w.heap.size 24 #[.slice A h.ps.length cap, iv h.aft, iv h.fore]) := Lq fun V hb => k0.same (hb.block _ k0.lt)
 have p0 := k0.c 0
 have p1 := k0.c 1
 have p2 := k0.c 2
 clear hH hc hok hbW1 k0 hck hfi hf hf'
 go_enter Tryz.func27, Tryz.ntmps27
 go_wp2_with fail
 refine HCK.out.mono ?_
 rintro e w2 ⟨rfl, hb2⟩
 have X2 := Lq hb2
 clear p0 p1 p2 hW1 HCK
 have p0 := (HC.out _ hb2).c 0
 have p1 := (HC.out _ hb2).c 1
 have p2 := (HC.out _ hb2).c 2
 clear hb2
 unfold ret3
 go_wp2_with fail
 refine (HFI.out _ X2.out).mono ?_
 rintro e w4 ⟨rfl, hb4⟩
 have X4 := Lq (belowT X2.out hb4)
 clear hb4 p0 p1 p2
 go_wp2_with fail
 go_ret2
 exact ⟨rfl, belowT HB1.out X4.out⟩
structure KeptO (V w : World) (a b : Option Nat) : Prop where
 os : w.os = V.os
 tape : w.tape = V.tape
 output : w.output = V.output
 size : V.heap.size ≤ w.heap.size
 block : ∀ k, k < V.heap.size → some k ≠ a → some k ≠ b → w.heap[k]? = V.heap[k]?
structure TwoR (base : Nat) (V w : World) (a b : Option Nat) (vW vL : Value) (n m : Nat) (xs ys : List Value) : Prop where
 kept : KeptO V w a b
 ow : w.ownsRow base 3 1 vW n xs
 ol : w.ownsRow base 3 1 vL m ys
 dis : ∀ g, vW.ownBlock = some g → vL.ownBlock ≠ some g
 wa : vW.ownBlock = a ∨ ∃ g, vW.ownBlock = some g ∧ V.heap.size ≤ g
 lb : vL.ownBlock = b ∨ ∃ g, vL.ownBlock = some g ∧ V.heap.size ≤ g
section
variable {base : Nat} {V w w' : World} {a b : Option Nat} {vW vL : Value} {n m : Nat} {xs ys : List Value}
theorem KeptO.of_below (h : BW V w) : KeptO V w a b := ⟨h.os, h.tape, h.output, h.size, fun k hk _ _ => h.block k hk⟩
theorem KeptO.belowTo (h : KeptO V w a b) (hb : BW w w') : KeptO V w' a b := ⟨hb.os.trans h.os, hb.tape.trans h.tape, hb.output.trans h.output, Nat.le_trans h.size hb.size, fun k hk h1 h2 => (hb.block k (Nat.lt_of_lt_of_le hk h.size)).trans (h.block k hk h1 h2)⟩
theorem KeptO.cell (h : KeptO V w a b) {g o : Nat} {v : Value} (hc : V.cell? ⟨g, o, none⟩ = some v) (h1 : some g ≠ a) (h2 : some g ≠ b) : w.cell? ⟨g, o, none⟩ = some v :=
 (World.cell?_of_block (w := V) (a := ⟨g, o, none⟩) (h.block g (lt_of_cell hc) h1 h2)).trans hc
theorem KeptO.blk (h : KeptO V w a b) {g : Nat} {t : TypeId} {cs : Array Value} (hc : Blk V g t cs) (h1 : some g ≠ a) (h2 : some g ≠ b) : Blk w g t cs := hc.same (h.block g hc.lt h1 h2)
theorem TwoR.start (hw : V.ownsRow base 3 1 vW n xs) (hl : V.ownsRow base 3 1 vL m ys) (hd : ∀ g, vW.ownBlock = some g → vL.ownBlock ≠ some g) (hb : BW V w) : TwoR base V w vW.ownBlock vL.ownBlock vW vL n m xs ys :=
 ⟨KeptO.of_below hb, own_below hw hb, own_below hl hb, hd, .inl rfl, .inl rfl⟩
theorem TwoR.below (h : TwoR base V w a b vW vL n m xs ys) (hb : BW w w') : TwoR base V w' a b vW vL n m xs ys :=
 ⟨h.kept.belowTo hb, own_below h.ow hb, own_below h.ol hb, h.dis, h.wa, h.lb⟩
theorem kept_grow (hk : KeptO V w a b) {row : Option Nat} (hg : w.grownBy w' row) (hr : row = a ∨ row = b ∨ ∃ g, row = some g ∧ V.heap.size ≤ g) : KeptO V w' a b :=
 ⟨hg.os.trans hk.os, hg.tape.trans hk.tape, hg.output.trans hk.output, Nat.le_trans hk.size hg.size, fun k hl h1 h2 => (hg.block k (Nat.lt_of_lt_of_le hl hk.size) (by
  rcases hr with e | e | ⟨g, e, hge⟩
  ·rw [e]; exact h1
  ·rw [e]; exact h2
  ·rw [e]; intro e2; injection e2 with e2; omega)).trans (hk.block k hl h1 h2)⟩
theorem TwoR.growW (h : TwoR base V w a b vW vL n m xs ys) {g c n' : Nat} {xs' : List Value} (hg : w.grownBy w' vW.ownBlock) (ho : w'.ownsRow base 3 1 (.slice (some ⟨g, 0, none⟩) n' c) n' xs') (hat : vW.ownBlock = some g ∨ g = w.heap.size) : TwoR base V w' a b (.slice (some ⟨g, 0, none⟩) n' c) vL n' m xs' ys := by
 refine ⟨kept_grow h.kept hg (h.wa.imp id fun h => .inr h), ho, h.ol.kept hg ?_, fun g' e e2 => ?_, ?_, h.lb⟩
 ·cases hv : vW.ownBlock with
  | none =>
   cases hl : vL.ownBlock with
   | none => exact .inl rfl
   | some x => exact .inr (by simp)
  | some x => exact .inr (h.dis x hv)
 ·injection e with e
  subst e
  rcases hat with hat | hat
  ·exact h.dis _ hat e2
  ·have := (h.ol.lt _ e2).2
   simp only at this
   omega
 ·rcases hat with hat | hat
  ·rcases h.wa with e | ⟨x, e, hx⟩
   ·exact .inl (by rw [← e, hat]; rfl)
   ·exact .inr ⟨g, rfl, by rw [hat] at e; injection e with e; omega⟩
  ·exact .inr ⟨g, rfl, by have := h.kept.size; omega⟩
theorem TwoR.swap (h : TwoR base V w a b vW vL n m xs ys) : TwoR base V w b a vL vW m n ys xs :=
 ⟨⟨h.kept.os, h.kept.tape, h.kept.output, h.kept.size, fun k hk h1 h2 => h.kept.block k hk h2 h1⟩, h.ol, h.ow, fun g e e2 => h.dis g e2 e, h.lb, h.wa⟩
theorem TwoR.growL (h : TwoR base V w a b vW vL n m xs ys) {g c m' : Nat} {ys' : List Value} (hg : w.grownBy w' vL.ownBlock) (ho : w'.ownsRow base 3 1 (.slice (some ⟨g, 0, none⟩) m' c) m' ys') (hat : vL.ownBlock = some g ∨ g = w.heap.size) : TwoR base V w' a b vW (.slice (some ⟨g, 0, none⟩) m' c) n m' xs ys' :=
 (h.swap.growW hg ho hat).swap
end
def hull5 : StH := ⟨[⟨⟨#[98, 111, 119]⟩, 100, 1000, 1200, 50, 10, 12⟩, ⟨⟨#[109, 105, 100]⟩, 400, 500, 600, 100, 4, 5⟩, ⟨⟨#[115, 116, 101, 114, 110]⟩, 900, 2000, 2000, 100, 20, 20⟩], 200, 800⟩
def heavyW : List Int := [1000, 500, 2000]
def heavyL : List Int := [12, 5, 20]
theorem hull5_chk : chk5 hull5 = (0, 0, 0) := by kernel_rfl
theorem hull5_ok : H5Ok hull5 := (chk5_iff.1 (by rw [hull5_chk])).1
theorem heavy_truth : TruthOf hull5 heavyW heavyL := by
 refine ⟨rfl, rfl, fun i x hx => ?_⟩
 match i, hx with
 | 0, hx => simp [hull5] at hx; subst hx; simp [heavyW, heavyL]
 | 1, hx => simp [hull5] at hx; subst hx; simp [heavyW, heavyL]
 | 2, hx => simp [hull5] at hx; subst hx; simp [heavyW, heavyL]
 | i + 3, hx => simp [hull5] at hx
theorem val_in134 : truthK hull5 heavyW heavyL 0 134 = 1642 ∧ truthK hull5 heavyW heavyL 1 134 = 990800 ∧ truthK hull5 heavyW heavyL 2 134 = -5600 := by refine ⟨?_, ?_, ?_⟩ <;> kernel_rfl
theorem val_in0 : truthK hull5 heavyW heavyL 0 0 = 3500 ∧ truthK hull5 heavyW heavyL 1 0 = 1400000 ∧ truthK hull5 heavyW heavyL 2 0 = 700000 := by refine ⟨?_, ?_, ?_⟩ <;> kernel_rfl
theorem val_least150 : leastK hull5 0 150 = 1050 ∧ leastK hull5 1 150 = 730000 ∧ leastK hull5 2 150 = -140000 := by refine ⟨?_, ?_, ?_⟩ <;> kernel_rfl
theorem val_why134 : whyH hull5 134 = 3 := by kernel_rfl
theorem sort_four (x : Int) (h : 100 ≤ x) : ([x, 50, 100, 100] : List Int).mergeSort (fun a b => decide (a ≤ b)) = [50, 100, 100, x] := by
 refine List.Perm.eq_of_pairwise (le := fun a b : Int => a ≤ b) (fun a b _ _ h1 h2 => Int.le_antisymm h1 h2) ?_ ?_ ?_
 ·have := List.pairwise_mergeSort (le := fun x y : Int => decide (x ≤ y)) (fun a b c h1 h2 => by simp only [decide_eq_true_eq] at *; omega) (fun a b => by simp only [Bool.or_eq_true, decide_eq_true_eq]; omega) [x, 50, 100, 100]
  exact this.imp fun h => by simpa using h
 ·simp; omega
 ·refine (List.mergeSort_perm _ _).trans ?_
  exact (List.perm_append_comm (l₁ := [x]) (l₂ := [50, 100, 100]))
theorem bends150 : bendsL hull5 0 150 = [50, 100, 150] := by
 unfold bendsL
 rw [show bendTo hull5 0 150 hull5.ps.length = [150, 50, 100, 100] from by kernel_rfl, sort_four 150 (by omega), show Lib.compact ([50, 100, 100, 150] : List Int) = [50, 100, 150] from by kernel_rfl]
theorem bends1000 : bendsL hull5 0 1000 = [50, 100, 1000] := by
 unfold bendsL
 rw [show bendTo hull5 0 1000 hull5.ps.length = [1000, 50, 100, 100] from by kernel_rfl, sort_four 1000 (by omega), show Lib.compact ([50, 100, 100, 1000] : List Int) = [50, 100, 1000] from by kernel_rfl]
theorem first150 : firstH hull5 0 150 = (3, 134) := by
 unfold firstH
 rw [bends150]
 kernel_rfl
theorem first1000 : firstH hull5 0 1000 = (3, 134) := by
 unfold firstH
 rw [bends1000]
 kernel_rfl
end Go.Proofs.YtmhjhbchokbonaaGreat
