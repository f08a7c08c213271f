/- The sums in a truth: the region that adds a press (printed by mkT8r.py). The sums of a hull in a truth (printed by mkT8.py). stand.open, Balance, Least, Forces, where nothing is wrong (printed by mkT9.py). -/
import Derived.Deep.RegionHeld3
import Derived.Test.YtmhjhbchokbonaaGreatM0
import Derived.Test.YtmhjhbchokbonaaGreatM10
import Derived.Test.YtmhjhbchokbonaaGreatM12
set_option maxRecDepth 1000000
set_option maxHeartbeats 16000000
namespace Go.Proofs.YtmhjhbchokbonaaGreat
open Go.RowKit
noncomputable def ops56_7 : Array Oper := opsOf (regionOf Tryz.f56 7)
theorem reg56_0 {Q : Exit → Act → World → Prop} {V : World} {g6 g8 gx gt b1 o1 b2 o2 n cw cl j : Nat} {name : ByteArray} {pos wlo whi keel llo lhi wt OV TW TL AR PR ACC : Int} {z0 z1 z3 z5 z11 z12 z13 z14 z15 z16 z17 z18 z19 z20 z21 z22 z23 z24 z25 z26 z27 z28 z29 z30 z31 z32 z33 z34 z35 z36 z37 z38 z39 z40 z41 z42 z43 z44 z45 z46 z47 z48 z49 z50 z51 z52 z53 z54 z55 : Value} (hjn : j < n) (h68 : g6 < g8) (h8x : g8 < gx) (ht6 : gt < g6) (hbt : b1 ≠ g6) (hbl : b2 ≠ g6) (hsw : IntKind.i64.wrap (wt - keel) = wt - keel) (hOV : max 0 (wt - keel) = OV) (hw3 : IntKind.i64.wrap (TL * OV) = TL * OV) (hw4 : IntKind.i64.wrap (TW - TL * OV) = PR) (hw1 : IntKind.i64.wrap (AR * PR) = AR * PR) (hw2 : IntKind.i64.wrap (ACC + AR * PR) = ACC + AR * PR)
  (h4 : ∀ W, BW V W → W.cell? ⟨g6, 0, none⟩ = some (iv ACC) ∧ W.frozen? ⟨g6, 0, none⟩ = false ∧ g6 < W.heap.size)
  (hA : ∀ W, BW V W → Calls Tryz.prog 102 #[.agg #[.string name, iv pos, iv wlo, iv whi, iv keel, iv llo, iv lhi]] W (Rt W (iv AR)))
  (hS : ∀ W, BW V W → W.cell? ⟨g8, 0, none⟩ = some (.func (.func 102) #[] #[]) ∧ W.cell? ⟨gx, 0, none⟩ = some (.string name) ∧ W.cell? ⟨gx, 1, none⟩ = some (iv pos) ∧ W.cell? ⟨gx, 2, none⟩ = some (iv wlo) ∧ W.cell? ⟨gx, 3, none⟩ = some (iv whi) ∧ W.cell? ⟨gx, 4, none⟩ = some (iv keel) ∧ W.cell? ⟨gx, 5, none⟩ = some (iv llo) ∧ W.cell? ⟨gx, 6, none⟩ = some (iv lhi) ∧ W.cell? ⟨gt, 0, none⟩ = some (.slice (some ⟨b1, o1, none⟩) n cw) ∧ W.cell? ⟨gt, 1, none⟩ = some (.slice (some ⟨b2, o2, none⟩) n cl) ∧ W.cell? ⟨b1, o1 + j, none⟩ = some (iv TW) ∧ W.cell? ⟨b2, o2 + j, none⟩ = some (iv TL))
  (hQ : ∀  u26 u27 u28 u29 u30 u31 u32 u33 u34 u35 u36 u37 u38 u39 u40 u41 u42 u43 u44 u45 u46 u47 u48 u49 u50 u51 u52 wx, (∃ w7, BW V w7 ∧ wx = w7.setCell ⟨g6, 0, none⟩ (iv (ACC + AR * PR))) → Q .normal ⟨#[z0, z1, iv wt, z3, .pointer (some ⟨gt, 0, none⟩), z5, .pointer (some ⟨g6, 0, none⟩), iv 0, .pointer (some ⟨g8, 0, none⟩), iv j, .pointer (some ⟨gx, 0, none⟩), z11, z12, z13, z14, z15, z16, z17, z18, z19, z20, z21, z22, z23, z24, z25, u26, u27, u28, u29, u30, u31, u32, u33, u34, u35, u36, u37, u38, u39, u40, u41, u42, u43, u44, u45, u46, u47, u48, u49, u50, u51, u52, z53, z54, z55], []⟩ wx) :
  (regionOf Tryz.f56 7).wp Tryz.prog Q ⟨#[z0, z1, iv wt, z3, .pointer (some ⟨gt, 0, none⟩), z5, .pointer (some ⟨g6, 0, none⟩), iv 0, .pointer (some ⟨g8, 0, none⟩), iv j, .pointer (some ⟨gx, 0, none⟩), z11, z12, z13, z14, z15, z16, z17, z18, z19, z20, z21, z22, z23, z24, z25, z26, z27, z28, z29, z30, z31, z32, z33, z34, z35, z36, z37, z38, z39, z40, z41, z42, z43, z44, z45, z46, z47, z48, z49, z50, z51, z52, z53, z54, z55], []⟩ V := by
 have H4 := Lq h4
 have HA := Lq hA
 have hj0 : (0 : Int) ≤ (j : Int) := by omega
 have hjz : (j : Int) < (n : Int) := by omega
 clear h4 hA
 have HS := Lq hS
 have HQ := Lq hQ
 clear hQ
 refine go0 (ops := ops56_7) (r := 7) (n := 28) hS fun V0 HB0 hHeld => ?_
 clear hS
 refine tk 0 (iv 0) ?_
 refine tk 3 (.pointer (some ⟨g8, 0, none⟩)) ?_
 refine tk 5 (.agg #[.string name, iv pos, iv wlo, iv whi, iv keel, iv llo, iv lhi]) ?_
 refine tk 7 (.pointer (some ⟨gt, 0, none⟩)) ?_
 refine tk 9 (iv j) ?_
 refine tk 12 (.pointer (some ⟨gt, 1, none⟩)) ?_
 refine tk 14 (iv j) ?_
 refine tk 17 (iv wt) ?_
 refine tk 18 (.pointer (some ⟨gx, 4, none⟩)) ?_
 refine tk 1 (.pointer (some ⟨g6, 0, none⟩)) ?_
 refine tk 4 (.func (.func 102) #[] #[]) ?_
 refine tk 8 (.slice (some ⟨b1, o1, none⟩) n cw) ?_
 refine tk 13 (.slice (some ⟨b2, o2, none⟩) n cl) ?_
 refine tk 19 (iv keel) ?_
 refine tk 10 (.pointer (some ⟨b1, o1 + j, none⟩)) ?_
 refine tk 15 (.pointer (some ⟨b2, o2 + j, none⟩)) ?_
 refine tk 20 (iv (wt - keel)) ?_
 refine tk 11 (iv TW) ?_
 refine tk 16 (iv TL) ?_
 refine tk 21 (iv OV) ?_
 refine tk 22 (iv (TL * OV)) ?_
 refine tk 23 (iv PR) ?_
 refine rd2 2 6 (fun K' hK => ?_) fun K' hK => ?_
 ·obtain ⟨n4, _, _⟩ := H4.out _ HB0.out
  go_simp
  refine hK.out _ _ hHeld (fun hHeld => ?_)
  clear n4
  clear hK
  refine rd1 6 fun K' hK => ?_
  go_simp
  refine (HA.out _ HB0.out).mono ?_
  rintro e w6 ⟨rfl, hb⟩
  have HB6 := Lq (belowT HB0.out hb)
  clear hb
  refine hK.out _ _ (HS.out _ HB6.out) (fun hHeld => ?_)
  clear hK
  refine tk 24 (iv (AR * PR)) ?_
  refine tk 25 (iv (ACC + AR * PR)) ?_
  refine tk 26 (.pointer (some ⟨g6, 0, none⟩)) ?_
  refine rd1 27 fun K' hK => ?_
  obtain ⟨n4, f4, l4⟩ := H4.out _ HB6.out
  go_simp
  obtain ⟨q0, q1, q2, q3, q4, q5, q6, q7, q8, q9, q10, q11⟩ := HS.out _ HB6.out
  refine hK.out _ _ ⟨keepSet q0 (by omega), keepSet q1 (by omega), keepSet q2 (by omega), keepSet q3 (by omega), keepSet q4 (by omega), keepSet q5 (by omega), keepSet q6 (by omega), keepSet q7 (by omega), keepSet q8 (by omega), keepSet q9 (by omega), keepSet q10 hbt, keepSet q11 hbl⟩ (fun hHeld => ?_)
  clear q0 q1 q2 q3 q4 q5 q6 q7 q8 q9 q10 q11 n4 f4 l4
  clear hK
  refine wpAnyH_done (by kernel_rfl) ?_ _
  exact NoPanic.normal (HQ.out _ _ _ _ _ _ _ _ _ _ _ _ _ _ _ _ _ _ _ _ _ _ _ _ _ _ _ _ ⟨_, HB6.out, rfl⟩)
 ·go_simp
  refine (HA.out _ HB0.out).mono ?_
  rintro e w6 ⟨rfl, hb⟩
  have HB6 := Lq (belowT HB0.out hb)
  clear hb
  refine hK.out _ _ (HS.out _ HB6.out) (fun hHeld => ?_)
  clear hK
  refine tk 24 (iv (AR * PR)) ?_
  refine rd1 2 fun K' hK => ?_
  obtain ⟨n4, _, _⟩ := H4.out _ HB6.out
  go_simp
  refine hK.out _ _ hHeld (fun hHeld => ?_)
  clear n4
  clear hK
  refine tk 25 (iv (ACC + AR * PR)) ?_
  refine tk 26 (.pointer (some ⟨g6, 0, none⟩)) ?_
  refine rd1 27 fun K' hK => ?_
  obtain ⟨n4, f4, l4⟩ := H4.out _ HB6.out
  go_simp
  obtain ⟨q0, q1, q2, q3, q4, q5, q6, q7, q8, q9, q10, q11⟩ := HS.out _ HB6.out
  refine hK.out _ _ ⟨keepSet q0 (by omega), keepSet q1 (by omega), keepSet q2 (by omega), keepSet q3 (by omega), keepSet q4 (by omega), keepSet q5 (by omega), keepSet q6 (by omega), keepSet q7 (by omega), keepSet q8 (by omega), keepSet q9 (by omega), keepSet q10 hbt, keepSet q11 hbl⟩ (fun hHeld => ?_)
  clear q0 q1 q2 q3 q4 q5 q6 q7 q8 q9 q10 q11 n4 f4 l4
  clear hK
  refine wpAnyH_done (by kernel_rfl) ?_ _
  exact NoPanic.normal (HQ.out _ _ _ _ _ _ _ _ _ _ _ _ _ _ _ _ _ _ _ _ _ _ _ _ _ _ _ _ ⟨_, HB6.out, rfl⟩)
theorem reg56_1 {Q : Exit → Act → World → Prop} {V : World} {g6 g8 gx gt gb b1 o1 b2 o2 n cw cl j : Nat} {name : ByteArray} {pos wlo whi keel llo lhi wt OV TW TL AR PR ACC : Int} {z0 z1 z3 z5 z11 z12 z13 z14 z15 z16 z17 z18 z19 z20 z21 z22 z23 z24 z25 z26 z27 z28 z29 z30 z31 z32 z33 z34 z35 z36 z37 z38 z39 z40 z41 z42 z43 z44 z45 z46 z47 z48 z49 z50 z51 z52 z53 z54 z55 : Value} (hjn : j < n) (h68 : g6 < g8) (h8x : g8 < gx) (ht6 : gt < g6) (hbt : b1 ≠ g6) (hbl : b2 ≠ g6) (hsw : IntKind.i64.wrap (wt - keel) = wt - keel) (hOV : max 0 (wt - keel) = OV) (hw3 : IntKind.i64.wrap (TL * OV) = TL * OV) (hw4 : IntKind.i64.wrap (TW - TL * OV) = PR) (hw1 : IntKind.i64.wrap (AR * PR) = AR * PR) (hw2 : IntKind.i64.wrap (ACC + AR * PR) = ACC + AR * PR)
  (h4 : ∀ W, BW V W → W.cell? ⟨g6, 1, none⟩ = some (iv ACC) ∧ W.frozen? ⟨g6, 1, none⟩ = false ∧ g6 < W.heap.size)
  (hA : ∀ W, BW V W → Calls Tryz.prog 103 #[.agg #[.string name, iv pos, iv wlo, iv whi, iv keel, iv llo, iv lhi], .pointer (some ⟨gb, 0, none⟩)] W (Rt W (iv AR)))
  (hS : ∀ W, BW V W → W.cell? ⟨g8, 0, none⟩ = some (.func (.func 103) #[] #[.pointer (some ⟨gb, 0, none⟩)]) ∧ W.cell? ⟨gx, 0, none⟩ = some (.string name) ∧ W.cell? ⟨gx, 1, none⟩ = some (iv pos) ∧ W.cell? ⟨gx, 2, none⟩ = some (iv wlo) ∧ W.cell? ⟨gx, 3, none⟩ = some (iv whi) ∧ W.cell? ⟨gx, 4, none⟩ = some (iv keel) ∧ W.cell? ⟨gx, 5, none⟩ = some (iv llo) ∧ W.cell? ⟨gx, 6, none⟩ = some (iv lhi) ∧ W.cell? ⟨gt, 0, none⟩ = some (.slice (some ⟨b1, o1, none⟩) n cw) ∧ W.cell? ⟨gt, 1, none⟩ = some (.slice (some ⟨b2, o2, none⟩) n cl) ∧ W.cell? ⟨b1, o1 + j, none⟩ = some (iv TW) ∧ W.cell? ⟨b2, o2 + j, none⟩ = some (iv TL))
  (hQ : ∀  u26 u27 u28 u29 u30 u31 u32 u33 u34 u35 u36 u37 u38 u39 u40 u41 u42 u43 u44 u45 u46 u47 u48 u49 u50 u51 u52 wx, (∃ w7, BW V w7 ∧ wx = w7.setCell ⟨g6, 1, none⟩ (iv (ACC + AR * PR))) → Q .normal ⟨#[z0, z1, iv wt, z3, .pointer (some ⟨gt, 0, none⟩), z5, .pointer (some ⟨g6, 0, none⟩), iv 1, .pointer (some ⟨g8, 0, none⟩), iv j, .pointer (some ⟨gx, 0, none⟩), z11, z12, z13, z14, z15, z16, z17, z18, z19, z20, z21, z22, z23, z24, z25, u26, u27, u28, u29, u30, u31, u32, u33, u34, u35, u36, u37, u38, u39, u40, u41, u42, u43, u44, u45, u46, u47, u48, u49, u50, u51, u52, z53, z54, z55], []⟩ wx) :
  (regionOf Tryz.f56 7).wp Tryz.prog Q ⟨#[z0, z1, iv wt, z3, .pointer (some ⟨gt, 0, none⟩), z5, .pointer (some ⟨g6, 0, none⟩), iv 1, .pointer (some ⟨g8, 0, none⟩), iv j, .pointer (some ⟨gx, 0, none⟩), z11, z12, z13, z14, z15, z16, z17, z18, z19, z20, z21, z22, z23, z24, z25, z26, z27, z28, z29, z30, z31, z32, z33, z34, z35, z36, z37, z38, z39, z40, z41, z42, z43, z44, z45, z46, z47, z48, z49, z50, z51, z52, z53, z54, z55], []⟩ V := by
 have H4 := Lq h4
 have HA := Lq hA
 have hj0 : (0 : Int) ≤ (j : Int) := by omega
 have hjz : (j : Int) < (n : Int) := by omega
 clear h4 hA
 have HS := Lq hS
 have HQ := Lq hQ
 clear hQ
 refine go0 (ops := ops56_7) (r := 7) (n := 28) hS fun V0 HB0 hHeld => ?_
 clear hS
 refine tk 0 (iv 1) ?_
 refine tk 3 (.pointer (some ⟨g8, 0, none⟩)) ?_
 refine tk 5 (.agg #[.string name, iv pos, iv wlo, iv whi, iv keel, iv llo, iv lhi]) ?_
 refine tk 7 (.pointer (some ⟨gt, 0, none⟩)) ?_
 refine tk 9 (iv j) ?_
 refine tk 12 (.pointer (some ⟨gt, 1, none⟩)) ?_
 refine tk 14 (iv j) ?_
 refine tk 17 (iv wt) ?_
 refine tk 18 (.pointer (some ⟨gx, 4, none⟩)) ?_
 refine tk 1 (.pointer (some ⟨g6, 1, none⟩)) ?_
 refine tk 4 (.func (.func 103) #[] #[.pointer (some ⟨gb, 0, none⟩)]) ?_
 refine tk 8 (.slice (some ⟨b1, o1, none⟩) n cw) ?_
 refine tk 13 (.slice (some ⟨b2, o2, none⟩) n cl) ?_
 refine tk 19 (iv keel) ?_
 refine tk 10 (.pointer (some ⟨b1, o1 + j, none⟩)) ?_
 refine tk 15 (.pointer (some ⟨b2, o2 + j, none⟩)) ?_
 refine tk 20 (iv (wt - keel)) ?_
 refine tk 11 (iv TW) ?_
 refine tk 16 (iv TL) ?_
 refine tk 21 (iv OV) ?_
 refine tk 22 (iv (TL * OV)) ?_
 refine tk 23 (iv PR) ?_
 refine rd2 2 6 (fun K' hK => ?_) fun K' hK => ?_
 ·obtain ⟨n4, _, _⟩ := H4.out _ HB0.out
  go_simp
  refine hK.out _ _ hHeld (fun hHeld => ?_)
  clear n4
  clear hK
  refine rd1 6 fun K' hK => ?_
  go_simp
  refine (HA.out _ HB0.out).mono ?_
  rintro e w6 ⟨rfl, hb⟩
  have HB6 := Lq (belowT HB0.out hb)
  clear hb
  refine hK.out _ _ (HS.out _ HB6.out) (fun hHeld => ?_)
  clear hK
  refine tk 24 (iv (AR * PR)) ?_
  refine tk 25 (iv (ACC + AR * PR)) ?_
  refine tk 26 (.pointer (some ⟨g6, 1, none⟩)) ?_
  refine rd1 27 fun K' hK => ?_
  obtain ⟨n4, f4, l4⟩ := H4.out _ HB6.out
  go_simp
  obtain ⟨q0, q1, q2, q3, q4, q5, q6, q7, q8, q9, q10, q11⟩ := HS.out _ HB6.out
  refine hK.out _ _ ⟨keepSet q0 (by omega), keepSet q1 (by omega), keepSet q2 (by omega), keepSet q3 (by omega), keepSet q4 (by omega), keepSet q5 (by omega), keepSet q6 (by omega), keepSet q7 (by omega), keepSet q8 (by omega), keepSet q9 (by omega), keepSet q10 hbt, keepSet q11 hbl⟩ (fun hHeld => ?_)
  clear q0 q1 q2 q3 q4 q5 q6 q7 q8 q9 q10 q11 n4 f4 l4
  clear hK
  refine wpAnyH_done (by kernel_rfl) ?_ _
  exact NoPanic.normal (HQ.out _ _ _ _ _ _ _ _ _ _ _ _ _ _ _ _ _ _ _ _ _ _ _ _ _ _ _ _ ⟨_, HB6.out, rfl⟩)
 ·go_simp
  refine (HA.out _ HB0.out).mono ?_
  rintro e w6 ⟨rfl, hb⟩
  have HB6 := Lq (belowT HB0.out hb)
  clear hb
  refine hK.out _ _ (HS.out _ HB6.out) (fun hHeld => ?_)
  clear hK
  refine tk 24 (iv (AR * PR)) ?_
  refine rd1 2 fun K' hK => ?_
  obtain ⟨n4, _, _⟩ := H4.out _ HB6.out
  go_simp
  refine hK.out _ _ hHeld (fun hHeld => ?_)
  clear n4
  clear hK
  refine tk 25 (iv (ACC + AR * PR)) ?_
  refine tk 26 (.pointer (some ⟨g6, 1, none⟩)) ?_
  refine rd1 27 fun K' hK => ?_
  obtain ⟨n4, f4, l4⟩ := H4.out _ HB6.out
  go_simp
  obtain ⟨q0, q1, q2, q3, q4, q5, q6, q7, q8, q9, q10, q11⟩ := HS.out _ HB6.out
  refine hK.out _ _ ⟨keepSet q0 (by omega), keepSet q1 (by omega), keepSet q2 (by omega), keepSet q3 (by omega), keepSet q4 (by omega), keepSet q5 (by omega), keepSet q6 (by omega), keepSet q7 (by omega), keepSet q8 (by omega), keepSet q9 (by omega), keepSet q10 hbt, keepSet q11 hbl⟩ (fun hHeld => ?_)
  clear q0 q1 q2 q3 q4 q5 q6 q7 q8 q9 q10 q11 n4 f4 l4
  clear hK
  refine wpAnyH_done (by kernel_rfl) ?_ _
  exact NoPanic.normal (HQ.out _ _ _ _ _ _ _ _ _ _ _ _ _ _ _ _ _ _ _ _ _ _ _ _ _ _ _ _ ⟨_, HB6.out, rfl⟩)
theorem reg56_2 {Q : Exit → Act → World → Prop} {V : World} {g6 g8 gx gt gb b1 o1 b2 o2 n cw cl j : Nat} {name : ByteArray} {pos wlo whi keel llo lhi wt OV TW TL AR PR ACC : Int} {z0 z1 z3 z5 z11 z12 z13 z14 z15 z16 z17 z18 z19 z20 z21 z22 z23 z24 z25 z26 z27 z28 z29 z30 z31 z32 z33 z34 z35 z36 z37 z38 z39 z40 z41 z42 z43 z44 z45 z46 z47 z48 z49 z50 z51 z52 z53 z54 z55 : Value} (hjn : j < n) (h68 : g6 < g8) (h8x : g8 < gx) (ht6 : gt < g6) (hbt : b1 ≠ g6) (hbl : b2 ≠ g6) (hsw : IntKind.i64.wrap (wt - keel) = wt - keel) (hOV : max 0 (wt - keel) = OV) (hw3 : IntKind.i64.wrap (TL * OV) = TL * OV) (hw4 : IntKind.i64.wrap (TW - TL * OV) = PR) (hw1 : IntKind.i64.wrap (AR * PR) = AR * PR) (hw2 : IntKind.i64.wrap (ACC + AR * PR) = ACC + AR * PR)
  (h4 : ∀ W, BW V W → W.cell? ⟨g6, 2, none⟩ = some (iv ACC) ∧ W.frozen? ⟨g6, 2, none⟩ = false ∧ g6 < W.heap.size)
  (hA : ∀ W, BW V W → Calls Tryz.prog 104 #[.agg #[.string name, iv pos, iv wlo, iv whi, iv keel, iv llo, iv lhi], .pointer (some ⟨gb, 0, none⟩)] W (Rt W (iv AR)))
  (hS : ∀ W, BW V W → W.cell? ⟨g8, 0, none⟩ = some (.func (.func 104) #[] #[.pointer (some ⟨gb, 0, none⟩)]) ∧ W.cell? ⟨gx, 0, none⟩ = some (.string name) ∧ W.cell? ⟨gx, 1, none⟩ = some (iv pos) ∧ W.cell? ⟨gx, 2, none⟩ = some (iv wlo) ∧ W.cell? ⟨gx, 3, none⟩ = some (iv whi) ∧ W.cell? ⟨gx, 4, none⟩ = some (iv keel) ∧ W.cell? ⟨gx, 5, none⟩ = some (iv llo) ∧ W.cell? ⟨gx, 6, none⟩ = some (iv lhi) ∧ W.cell? ⟨gt, 0, none⟩ = some (.slice (some ⟨b1, o1, none⟩) n cw) ∧ W.cell? ⟨gt, 1, none⟩ = some (.slice (some ⟨b2, o2, none⟩) n cl) ∧ W.cell? ⟨b1, o1 + j, none⟩ = some (iv TW) ∧ W.cell? ⟨b2, o2 + j, none⟩ = some (iv TL))
  (hQ : ∀  u26 u27 u28 u29 u30 u31 u32 u33 u34 u35 u36 u37 u38 u39 u40 u41 u42 u43 u44 u45 u46 u47 u48 u49 u50 u51 u52 wx, (∃ w7, BW V w7 ∧ wx = w7.setCell ⟨g6, 2, none⟩ (iv (ACC + AR * PR))) → Q .normal ⟨#[z0, z1, iv wt, z3, .pointer (some ⟨gt, 0, none⟩), z5, .pointer (some ⟨g6, 0, none⟩), iv 2, .pointer (some ⟨g8, 0, none⟩), iv j, .pointer (some ⟨gx, 0, none⟩), z11, z12, z13, z14, z15, z16, z17, z18, z19, z20, z21, z22, z23, z24, z25, u26, u27, u28, u29, u30, u31, u32, u33, u34, u35, u36, u37, u38, u39, u40, u41, u42, u43, u44, u45, u46, u47, u48, u49, u50, u51, u52, z53, z54, z55], []⟩ wx) :
  (regionOf Tryz.f56 7).wp Tryz.prog Q ⟨#[z0, z1, iv wt, z3, .pointer (some ⟨gt, 0, none⟩), z5, .pointer (some ⟨g6, 0, none⟩), iv 2, .pointer (some ⟨g8, 0, none⟩), iv j, .pointer (some ⟨gx, 0, none⟩), z11, z12, z13, z14, z15, z16, z17, z18, z19, z20, z21, z22, z23, z24, z25, z26, z27, z28, z29, z30, z31, z32, z33, z34, z35, z36, z37, z38, z39, z40, z41, z42, z43, z44, z45, z46, z47, z48, z49, z50, z51, z52, z53, z54, z55], []⟩ V := by
 have H4 := Lq h4
 have HA := Lq hA
 have hj0 : (0 : Int) ≤ (j : Int) := by omega
 have hjz : (j : Int) < (n : Int) := by omega
 clear h4 hA
 have HS := Lq hS
 have HQ := Lq hQ
 clear hQ
 refine go0 (ops := ops56_7) (r := 7) (n := 28) hS fun V0 HB0 hHeld => ?_
 clear hS
 refine tk 0 (iv 2) ?_
 refine tk 3 (.pointer (some ⟨g8, 0, none⟩)) ?_
 refine tk 5 (.agg #[.string name, iv pos, iv wlo, iv whi, iv keel, iv llo, iv lhi]) ?_
 refine tk 7 (.pointer (some ⟨gt, 0, none⟩)) ?_
 refine tk 9 (iv j) ?_
 refine tk 12 (.pointer (some ⟨gt, 1, none⟩)) ?_
 refine tk 14 (iv j) ?_
 refine tk 17 (iv wt) ?_
 refine tk 18 (.pointer (some ⟨gx, 4, none⟩)) ?_
 refine tk 1 (.pointer (some ⟨g6, 2, none⟩)) ?_
 refine tk 4 (.func (.func 104) #[] #[.pointer (some ⟨gb, 0, none⟩)]) ?_
 refine tk 8 (.slice (some ⟨b1, o1, none⟩) n cw) ?_
 refine tk 13 (.slice (some ⟨b2, o2, none⟩) n cl) ?_
 refine tk 19 (iv keel) ?_
 refine tk 10 (.pointer (some ⟨b1, o1 + j, none⟩)) ?_
 refine tk 15 (.pointer (some ⟨b2, o2 + j, none⟩)) ?_
 refine tk 20 (iv (wt - keel)) ?_
 refine tk 11 (iv TW) ?_
 refine tk 16 (iv TL) ?_
 refine tk 21 (iv OV) ?_
 refine tk 22 (iv (TL * OV)) ?_
 refine tk 23 (iv PR) ?_
 refine rd2 2 6 (fun K' hK => ?_) fun K' hK => ?_
 ·obtain ⟨n4, _, _⟩ := H4.out _ HB0.out
  go_simp
  refine hK.out _ _ hHeld (fun hHeld => ?_)
  clear n4
  clear hK
  refine rd1 6 fun K' hK => ?_
  go_simp
  refine (HA.out _ HB0.out).mono ?_
  rintro e w6 ⟨rfl, hb⟩
  have HB6 := Lq (belowT HB0.out hb)
  clear hb
  refine hK.out _ _ (HS.out _ HB6.out) (fun hHeld => ?_)
  clear hK
  refine tk 24 (iv (AR * PR)) ?_
  refine tk 25 (iv (ACC + AR * PR)) ?_
  refine tk 26 (.pointer (some ⟨g6, 2, none⟩)) ?_
  refine rd1 27 fun K' hK => ?_
  obtain ⟨n4, f4, l4⟩ := H4.out _ HB6.out
  go_simp
  obtain ⟨q0, q1, q2, q3, q4, q5, q6, q7, q8, q9, q10, q11⟩ := HS.out _ HB6.out
  refine hK.out _ _ ⟨keepSet q0 (by omega), keepSet q1 (by omega), keepSet q2 (by omega), keepSet q3 (by omega), keepSet q4 (by omega), keepSet q5 (by omega), keepSet q6 (by omega), keepSet q7 (by omega), keepSet q8 (by omega), keepSet q9 (by omega), keepSet q10 hbt, keepSet q11 hbl⟩ (fun hHeld => ?_)
  clear q0 q1 q2 q3 q4 q5 q6 q7 q8 q9 q10 q11 n4 f4 l4
  clear hK
  refine wpAnyH_done (by kernel_rfl) ?_ _
  exact NoPanic.normal (HQ.out _ _ _ _ _ _ _ _ _ _ _ _ _ _ _ _ _ _ _ _ _ _ _ _ _ _ _ _ ⟨_, HB6.out, rfl⟩)
 ·go_simp
  refine (HA.out _ HB0.out).mono ?_
  rintro e w6 ⟨rfl, hb⟩
  have HB6 := Lq (belowT HB0.out hb)
  clear hb
  refine hK.out _ _ (HS.out _ HB6.out) (fun hHeld => ?_)
  clear hK
  refine tk 24 (iv (AR * PR)) ?_
  refine rd1 2 fun K' hK => ?_
  obtain ⟨n4, _, _⟩ := H4.out _ HB6.out
  go_simp
  refine hK.out _ _ hHeld (fun hHeld => ?_)
  clear n4
  clear hK
  refine tk 25 (iv (ACC + AR * PR)) ?_
  refine tk 26 (.pointer (some ⟨g6, 2, none⟩)) ?_
  refine rd1 27 fun K' hK => ?_
  obtain ⟨n4, f4, l4⟩ := H4.out _ HB6.out
  go_simp
  obtain ⟨q0, q1, q2, q3, q4, q5, q6, q7, q8, q9, q10, q11⟩ := HS.out _ HB6.out
  refine hK.out _ _ ⟨keepSet q0 (by omega), keepSet q1 (by omega), keepSet q2 (by omega), keepSet q3 (by omega), keepSet q4 (by omega), keepSet q5 (by omega), keepSet q6 (by omega), keepSet q7 (by omega), keepSet q8 (by omega), keepSet q9 (by omega), keepSet q10 hbt, keepSet q11 hbl⟩ (fun hHeld => ?_)
  clear q0 q1 q2 q3 q4 q5 q6 q7 q8 q9 q10 q11 n4 f4 l4
  clear hK
  refine wpAnyH_done (by kernel_rfl) ?_ _
  exact NoPanic.normal (HQ.out _ _ _ _ _ _ _ _ _ _ _ _ _ _ _ _ _ _ _ _ _ _ _ _ _ _ _ _ ⟨_, HB6.out, rfl⟩)
structure T5Rd (w : World) (B : Nat) (tw tl : List Int) (AW AL : Option Addr) : Prop where
 ws : Rd1 iv w B AW tw
 ls : Rd1 iv w B AL tl
theorem T5Rd.below {w w' : World} {B B' : Nat} {tw tl : List Int} {AW AL : Option Addr} (H : T5Rd w B tw tl AW AL) (hb : Below B' w w') (hB : B ≤ B') : T5Rd w' B tw tl AW AL := ⟨H.ws.below hb hB, H.ls.below hb hB⟩
theorem T5Rd.more {w : World} {B B' : Nat} {tw tl : List Int} {AW AL : Option Addr} (H : T5Rd w B tw tl AW AL) (hB : B ≤ B') : T5Rd w B' tw tl AW AL := ⟨H.ws.more hB, H.ls.more hB⟩
abbrev t5V (tw tl : List Int) (AW AL : Option Addr) (cw cl : Nat) : Value := .agg #[.slice AW tw.length cw, .slice AL tl.length cl]
theorem in56_any (h : StH) (A : Option Addr) (B cap : Nat) (tw tl : List Int) (AW AL : Option Addr) (cw cl : Nat) (wt : Int) (w : World) (hH : H5Rd w B h A cap) (hT : T5Rd w B tw tl AW AL) (hB : B ≤ w.heap.size) (hk : H5Ok h) (ht : TruthOf h tw tl) (h0 : 0 ≤ wt) (h1 : wt ≤ 1000) :
  Calls Tryz.prog 56 #[h5V h A cap, t5V tw tl AW AL cw cl, iv wt] w (Rt w (sumsV (truthK h tw tl 0 wt) (truthK h tw tl 1 wt) (truthK h tw tl 2 wt))) := by
 have z137 := Tryz.sizeOf137
 have z138 := Tryz.sizeOf138
 obtain ⟨gt, hgt⟩ := ex (w.heap.size + 1)
 obtain ⟨g4, hg4⟩ := ex (gt + 1)
 obtain ⟨W1, hW1⟩ := ex (((w.alloc (.cells #[.slice A h.ps.length cap, iv h.aft, iv h.fore] 119)).alloc (.cells #[.slice AW tw.length cw, .slice AL tl.length cl] 49)).alloc (.cells #[iv 0, iv 0, iv 0] 123))
 have hb1 : BW w W1 := by rw [← hW1]; exact belowA (belowA (belowA (belowR _) _) _) _
 have hz1 : W1.heap.size = w.heap.size + 3 := by rw [← hW1]; simp
 have k0 : Blk W1 w.heap.size 119 #[.slice A h.ps.length cap, iv h.aft, iv h.fore] := by rw [← hW1]; exact ((Blk.new w 119 _).alloc _).alloc _
 have kt : Blk W1 gt 49 #[.slice AW tw.length cw, .slice AL tl.length cl] := by
  rw [← hW1, ← hgt]
  have := (Blk.new (w.alloc (.cells #[.slice A h.ps.length cap, iv h.aft, iv h.fore] 119)) 49 #[.slice AW tw.length cw, .slice AL tl.length cl]).alloc (.cells #[iv 0, iv 0, iv 0] 123)
  rw [World.size_alloc] at this
  exact this
 have k4 : Blk W1 g4 123 #[iv 0, iv 0, iv 0] := by
  rw [← hW1, ← hg4, ← hgt]
  have := Blk.new ((w.alloc (.cells #[.slice A h.ps.length cap, iv h.aft, iv h.fore] 119)).alloc (.cells #[.slice AW tw.length cw, .slice AL tl.length cl] 49)) 123 #[iv 0, iv 0, iv 0]
  rw [World.size_alloc, World.size_alloc] at this
  exact this
 have hpm := hH.pm
 have hpl := hH.pl
 unfold maxLen at hpm
 have HK := Lq hk
 have HTR := Lq ht
 have HP := Lq (hH.ps.below hb1 hB)
 have HTW := Lq (hT.below hb1 hB)
 have HB1 := Lq hb1
 have K0 := Lq k0
 have K4 := Lq k4
 have p0 := k0.c 0
 have p1 := k0.c 1
 have p2 := k0.c 2
 have r0 := kt.c 0
 have r1 := kt.c 1
 have hn10 := hk.n10
 obtain ⟨gb, hgb⟩ := ex (g4 + 1)
 have hzb : w.heap.size + 3 = gb := by omega
 have hlv := levers66_any A h.ps.length cap h.aft h.fore W1
 rw [hz1, hzb] at hlv
 have HLV := Lq hlv
 have HWT : Hid (0 ≤ wt ∧ wt ≤ 1000) := Lq ⟨h0, h1⟩
 clear hH hk hb1 k0 k4 h0 h1 hlv hT ht kt
 go_enter Tryz.func56, Tryz.ntmps56
 go_wp2_with fail
 refine HLV.out.mono ?_
 rintro e W2 ⟨rfl, hb2, c1, c2, hz2⟩
 have HC : Hid (∀ W, OnlyAt W2 W g4 → W.cell? ⟨w.heap.size, 0, none⟩ = some (.slice A h.ps.length cap) ∧ W.cell? ⟨w.heap.size, 1, none⟩ = some (iv h.aft) ∧ W.cell? ⟨w.heap.size, 2, none⟩ = some (iv h.fore)) := Lq fun W hb => ⟨hb.cell (keepC hb2 p0) (by omega), hb.cell (keepC hb2 p1) (by omega), hb.cell (keepC hb2 p2) (by omega)⟩
 have HT : Hid (∀ W, OnlyAt W2 W g4 → W.cell? ⟨gt, 0, none⟩ = some (.slice AW tw.length cw) ∧ W.cell? ⟨gt, 1, none⟩ = some (.slice AL tl.length cl)) := Lq fun W hb => ⟨hb.cell (keepC hb2 r0) (by omega), hb.cell (keepC hb2 r1) (by omega)⟩
 have HG : Hid (∀ W, OnlyAt W2 W g4 → W.cell? ⟨gb, 1, none⟩ = some (iv h.aft) ∧ W.cell? ⟨gb, 2, none⟩ = some (iv h.fore)) := Lq fun W hb => ⟨hb.cell c1 (by omega), hb.cell c2 (by omega)⟩
 have HB2 := Lq (belowT HB1.out hb2)
 have K4b := Lq (K4.out.same (hb2.block _ K4.out.lt))
 have HP2 := Lq (HP.out.below hb2 (by omega))
 have HW2 := Lq (HTW.out.ws.below hb2 (by omega))
 have HL2 := Lq (HTW.out.ls.below hb2 (by omega))
 have hz20 := hb2.size
 clear hb2 c1 c2 p0 p1 p2 r0 r1 K4 HP HLV hW1 HTW
 go_wp2_with fail
 go_loopw [13] (fun vi wr => Hid (OnlyAt W2 wr g4) ∧ ((vi = iv 0 ∧ Hid (Blk wr g4 123 #[iv 0, iv 0, iv 0])) ∨ (vi = iv 1 ∧ Hid (Blk wr g4 123 #[iv (truthK h tw tl 0 wt), iv 0, iv 0])) ∨ (vi = iv 2 ∧ Hid (Blk wr g4 123 #[iv (truthK h tw tl 0 wt), iv (truthK h tw tl 1 wt), iv 0])) ∨ (vi = iv 3 ∧ Hid (Blk wr g4 123 #[iv (truthK h tw tl 0 wt), iv (truthK h tw tl 1 wt), iv (truthK h tw tl 2 wt)])))) (fun vi _ => 3 - (intOf vi).toNat)
 case atStart => exact ⟨Lq (OnlyAt.of_below (belowR _) _), .inl ⟨rfl, K4b⟩⟩
 case round =>
  obtain ⟨HO, hcase⟩ := hrel
  have q0 := fun W => (idx138 gb W).1
  have q1 := fun W => (idx138 gb W).2.1
  have q2 := fun W => (idx138 gb W).2.2
  rcases hcase with ⟨rfl, J4⟩ | ⟨rfl, J4⟩ | ⟨rfl, J4⟩ | ⟨rfl, J4⟩
  ·
   have hk6 : Blk wr g4 123 #[iv 0, iv 0, iv 0] := J4.out
   have hO6 : OnlyAt W2 wr g4 := HO.out
   obtain ⟨g6, hg6⟩ := ex wr.heap.size
   obtain ⟨W3, hW3⟩ := ex (wr.alloc (.cells #[.func (.func 102) #[] #[], .func (.func 105) #[] #[], .func (.func 106) #[] #[]] 137))
   have hb3 : BW wr W3 := by rw [← hW3]; exact belowA (belowR _) _
   have k6 : Blk W3 g6 137 #[.func (.func 102) #[] #[], .func (.func 105) #[] #[], .func (.func 106) #[] #[]] := by rw [← hW3, ← hg6]; exact Blk.new wr 137 _
   have hO3 := hO6.more hb3
   obtain ⟨p0, p1, p2⟩ := HC.out _ hO3
   have HO3 := Lq hO3
   have K4 : Hid (Blk W3 g4 123 #[iv 0, iv 0, iv 0]) := Lq (hk6.same (hb3.block _ hk6.lt))
   have K6 := Lq k6
   have hg46 : g4 < g6 := by have := hk6.lt; omega
   have hzr : w.heap.size + 3 < g6 := by have := hO6.size; omega
   have hz3 : g6 < W3.heap.size := k6.lt
   clear hk6 hO6 hb3 k6 hO3 J4 HO
   go_wp2_with fail
   clear hW3 hg6
   go_loopw [21] (fun vj wr => ∃ j : Nat, j ≤ h.ps.length ∧ vj = iv j ∧ Hid (OnlyAt W3 wr g4) ∧ Hid (Blk wr g4 123 #[iv (accP (truthT tw tl h.aft h.fore 0 wt) h.ps j), iv 0, iv 0])) (fun vj _ => h.ps.length - (intOf vj).toNat)
   case atStart => exact ⟨0, Nat.zero_le _, rfl, Lq (OnlyAt.of_below (belowR _) _), K4⟩
   case round =>
    clear K4 p0 p1 p2
    rename World => wk
    obtain ⟨j, hj, rfl, HOW, K4⟩ := hrel
    have hO2 := HO3.out.trans HOW.out
    have hzw := HOW.out.size
    by_cases hlt : j < h.ps.length
    ·obtain ⟨c, hx⟩ : ∃ c, h.ps[j]? = some c := ⟨_, List.getElem?_eq_getElem hlt⟩
     obtain ⟨TW, htw⟩ : ∃ c, tw[j]? = some c := ⟨_, List.getElem?_eq_getElem (by rw [HTR.out.1]; exact hlt)⟩
     obtain ⟨TL, htl⟩ : ∃ c, tl[j]? = some c := ⟨_, List.getElem?_eq_getElem (by rw [HTR.out.2.1]; exact hlt)⟩
     have hco := HK.out.ps j c hx
     have hin := HTR.out.2.2 j c hx
     rw [htw, htl] at hin
     simp only [Option.getD_some] at hin
     have hov := overP_bd hco HWT.out.1 HWT.out.2
     have hlb := truthT_bd (a := h.aft) (f := h.fore) (w := wt) 0 ⟨HK.out.a0, HK.out.a1⟩ ⟨HK.out.f0, HK.out.f1⟩ hco HWT.out.1 HWT.out.2 hin.1 hin.2.1 hin.2.2.1 hin.2.2.2
     have hab := truthAcc_bd HK.out HTR.out 0 HWT.out.1 HWT.out.2 (show j ≤ 10 by omega)
     have hsu : accP (truthT tw tl h.aft h.fore 0 wt) h.ps (j + 1) = accP (truthT tw tl h.aft h.fore 0 wt) h.ps j + armK h.aft h.fore 0 c * (TW - TL * overP c wt) := by rw [accP_succ hx]; unfold truthT; rw [htw, htl]; rfl
     obtain ⟨bb, off, rfl, _, d0, d1, d2, d3, d4, d5, d6⟩ := stAt (hO2.rdN HP2.out (by omega)) hx
     obtain ⟨b1, o1, rfl, hb1, t1⟩ := (hO2.rd1 HW2.out (by omega)) j TW htw
     obtain ⟨b2, o2, rfl, hb2, t2⟩ := (hO2.rd1 HL2.out (by omega)) j TL htl
     obtain ⟨s9, s10⟩ := HG.out _ hO2
     obtain ⟨y4, y5⟩ := HT.out _ hO2
     have ha := fun V (hb : BW wk V) => arm102_any c V
     have har : (1 : Int) = armK h.aft h.fore 0 c := rfl
     rw [har] at ha
     obtain ⟨AR, hAR⟩ := ex (armK h.aft h.fore 0 c)
     rw [hAR] at ha hlb hsu
     obtain ⟨OV, hOV⟩ := ex (overP c wt)
     have hO5 : max 0 (wt - c.keel) = OV := hOV
     rw [hOV] at hlb hov hsu
     have hsw : IntKind.i64.wrap (wt - c.keel) = wt - c.keel := by have := HWT.out; have := hco.k0; have := hco.k1; rw [IntKind.wrap_i64]; omega
     have hw3 : IntKind.i64.wrap (TL * OV) = TL * OV := by have := mul_bd (show 0 ≤ TL by have := hco.l0; omega) (show TL ≤ 5000 by have := hco.l2; omega) hov.1 hov.2; rw [IntKind.wrap_i64]; omega
     have hpb := press_bd (W := TW) (L := TL) (o := OV) (by have := hco.w0; omega) (by have := hco.w2; omega) (by have := hco.l0; omega) (by have := hco.l2; omega) hov.1 hov.2
     obtain ⟨PR, hPR⟩ := ex (TW - TL * OV)
     rw [hPR] at hlb hpb hsu
     have hw4 : IntKind.i64.wrap (TW - TL * OV) = PR := by rw [hPR, IntKind.wrap_i64]; omega
     obtain ⟨ACC, hACC⟩ := ex (accP (truthT tw tl h.aft h.fore 0 wt) h.ps j)
     rw [hACC] at K4 hab hsu
     have hw1 : IntKind.i64.wrap (AR * PR) = AR * PR := by rw [IntKind.wrap_i64]; omega
     have hw2 : IntKind.i64.wrap (ACC + AR * PR) = ACC + AR * PR := by rw [IntKind.wrap_i64]; omega
     have HA := Lq ha
     have HSUM := Lq hsu
     have hjz : (j : Int) < (h.ps.length : Int) := by omega
     have hj0 : (0 : Int) ≤ (j : Int) := by omega
     have HTL := HTR.out.1
     have HTL2 := HTR.out.2.1
     rw [HTL] at y4
     rw [HTL2] at y5
     clear hx hco hov hlb hab hsu ha har hAR hOV hACC s9 s10 hO2 htw htl hin hpb hPR HTL HTL2
     obtain ⟨name, pos, wlo, whi, keel, llo, lhi⟩ := c
     simp only at d0 d1 d2 d3 d4 d5 d6 hO5 hsw
     obtain ⟨gx, hgx⟩ := ex wk.heap.size
     obtain ⟨W5, hW5⟩ := ex (wk.alloc (.cells #[.string name, iv pos, iv wlo, iv whi, iv keel, iv llo, iv lhi] 42))
     have hb5 : BW wk W5 := by rw [← hW5]; exact belowA (belowR _) _
     have kx : Blk W5 gx 42 #[.string name, iv pos, iv wlo, iv whi, iv keel, iv llo, iv lhi] := by rw [← hW5, ← hgx]; exact Blk.new wk 42 _
     have k6 : Blk W5 g6 137 #[.func (.func 102) #[] #[], .func (.func 105) #[] #[], .func (.func 106) #[] #[]] := (HOW.out.more hb5).blk K6.out (by omega)
     have k4 : Blk W5 g4 123 #[iv ACC, iv 0, iv 0] := K4.out.same (hb5.block _ K4.out.lt)
     have hgx6 : g6 < gx := by omega
     have hHS : ∀ W, BW W5 W → W.cell? ⟨g6, 0, none⟩ = some (.func (.func 102) #[] #[]) ∧ W.cell? ⟨gx, 0, none⟩ = some (.string name) ∧ W.cell? ⟨gx, 1, none⟩ = some (iv pos) ∧ W.cell? ⟨gx, 2, none⟩ = some (iv wlo) ∧ W.cell? ⟨gx, 3, none⟩ = some (iv whi) ∧ W.cell? ⟨gx, 4, none⟩ = some (iv keel) ∧ W.cell? ⟨gx, 5, none⟩ = some (iv llo) ∧ W.cell? ⟨gx, 6, none⟩ = some (iv lhi) ∧ W.cell? ⟨gt, 0, none⟩ = some (.slice (some ⟨b1, o1, none⟩) h.ps.length cw) ∧ W.cell? ⟨gt, 1, none⟩ = some (.slice (some ⟨b2, o2, none⟩) h.ps.length cl) ∧ W.cell? ⟨b1, o1 + j, none⟩ = some (iv TW) ∧ W.cell? ⟨b2, o2 + j, none⟩ = some (iv TL) := fun W hb => ⟨(k6.same (hb.block _ k6.lt)).cell 0, (kx.same (hb.block _ kx.lt)).cell 0, (kx.same (hb.block _ kx.lt)).cell 1, (kx.same (hb.block _ kx.lt)).cell 2, (kx.same (hb.block _ kx.lt)).cell 3, (kx.same (hb.block _ kx.lt)).cell 4, (kx.same (hb.block _ kx.lt)).cell 5, (kx.same (hb.block _ kx.lt)).cell 6, keepC (belowT hb5 hb) y4, keepC (belowT hb5 hb) y5, keepC (belowT hb5 hb) t1, keepC (belowT hb5 hb) t2⟩
     have h4 : ∀ W, BW W5 W → Blk W g4 123 #[iv ACC, iv 0, iv 0] := fun W hb => k4.same (hb.block _ k4.lt)
     have HB5 := Lq hb5
     have HHS := Lq hHS
     have H4 := Lq h4
     clear hb5 kx k6 k4 hHS h4 t1 t2 y4 y5
     go_upto_region 7 with fail
     clear hW5 hgx d0 d1 d2 d3 d4 d5 d6
     refine reg56_0 hlt hg46 hgx6 (by omega) (by omega) (by omega) hsw hO5 hw3 hw4 hw1 hw2 (fun W hb => ⟨(H4.out W hb).cell 0, (H4.out W hb).frozen 0, (H4.out W hb).lt⟩) (fun W hb => HA.out W (belowT HB5.out hb)) HHS.out ?_
     intro u100 u101 u102 u103 u104 u105 u106 u107 u108 u109 u110 u111 u112 u113 u114 u115 u116 u117 u118 u119 u120 u121 u122 u123 u124 u125 u126 wx hwx
     obtain ⟨w7, hb7, rfl⟩ := hwx
     have HREL : Hid (OnlyAt W3 (w7.setCell ⟨g4, 0, none⟩ (iv (ACC + AR * PR))) g4 ∧ Blk (w7.setCell ⟨g4, 0, none⟩ (iv (ACC + AR * PR))) g4 123 #[iv (accP (truthT tw tl h.aft h.fore 0 wt) h.ps (j + 1)), iv 0, iv 0]) := Lq ⟨(HOW.out.more (belowT HB5.out hb7)).set 0 _, by rw [HSUM.out]; exact (H4.out w7 hb7).set_ 0 _⟩
     clear hb7 hsw hO5 hw3 hw4 hw1 hw2
     go_wp2_with fail
     go_roundw
     case rel => exact ⟨j + 1, by omega, by go_num, Lq HREL.out.1, Lq HREL.out.2⟩
     case measure => simp [intOf]; omega
    ·obtain rfl : j = h.ps.length := by omega
     have HO9 := Lq hO2
     have K9 : Hid (Blk wk g4 123 #[iv (truthK h tw tl 0 wt), iv 0, iv 0]) := K4
     clear HOW K4 hO2
     go_wp2_with fail
     go_roundw
     case rel => exact ⟨HO9, .inr (.inl ⟨rfl, K9⟩)⟩
     case measure => simp [intOf]
  ·
   have hk6 : Blk wr g4 123 #[iv (truthK h tw tl 0 wt), iv 0, iv 0] := J4.out
   have hO6 : OnlyAt W2 wr g4 := HO.out
   obtain ⟨g6, hg6⟩ := ex wr.heap.size
   obtain ⟨W3, hW3⟩ := ex (wr.alloc (.cells #[.func (.func 103) #[] #[.pointer (some ⟨gb, 0, none⟩)], .func (.func 105) #[] #[], .func (.func 106) #[] #[]] 137))
   have hb3 : BW wr W3 := by rw [← hW3]; exact belowA (belowR _) _
   have k6 : Blk W3 g6 137 #[.func (.func 103) #[] #[.pointer (some ⟨gb, 0, none⟩)], .func (.func 105) #[] #[], .func (.func 106) #[] #[]] := by rw [← hW3, ← hg6]; exact Blk.new wr 137 _
   have hO3 := hO6.more hb3
   obtain ⟨p0, p1, p2⟩ := HC.out _ hO3
   have HO3 := Lq hO3
   have K4 : Hid (Blk W3 g4 123 #[iv (truthK h tw tl 0 wt), iv 0, iv 0]) := Lq (hk6.same (hb3.block _ hk6.lt))
   have K6 := Lq k6
   have hg46 : g4 < g6 := by have := hk6.lt; omega
   have hzr : w.heap.size + 3 < g6 := by have := hO6.size; omega
   have hz3 : g6 < W3.heap.size := k6.lt
   clear hk6 hO6 hb3 k6 hO3 J4 HO
   go_wp2_with fail
   clear hW3 hg6
   go_loopw [21] (fun vj wr => ∃ j : Nat, j ≤ h.ps.length ∧ vj = iv j ∧ Hid (OnlyAt W3 wr g4) ∧ Hid (Blk wr g4 123 #[iv (truthK h tw tl 0 wt), iv (accP (truthT tw tl h.aft h.fore 1 wt) h.ps j), iv 0])) (fun vj _ => h.ps.length - (intOf vj).toNat)
   case atStart => exact ⟨0, Nat.zero_le _, rfl, Lq (OnlyAt.of_below (belowR _) _), K4⟩
   case round =>
    clear K4 p0 p1 p2
    rename World => wk
    obtain ⟨j, hj, rfl, HOW, K4⟩ := hrel
    have hO2 := HO3.out.trans HOW.out
    have hzw := HOW.out.size
    by_cases hlt : j < h.ps.length
    ·obtain ⟨c, hx⟩ : ∃ c, h.ps[j]? = some c := ⟨_, List.getElem?_eq_getElem hlt⟩
     obtain ⟨TW, htw⟩ : ∃ c, tw[j]? = some c := ⟨_, List.getElem?_eq_getElem (by rw [HTR.out.1]; exact hlt)⟩
     obtain ⟨TL, htl⟩ : ∃ c, tl[j]? = some c := ⟨_, List.getElem?_eq_getElem (by rw [HTR.out.2.1]; exact hlt)⟩
     have hco := HK.out.ps j c hx
     have hin := HTR.out.2.2 j c hx
     rw [htw, htl] at hin
     simp only [Option.getD_some] at hin
     have hov := overP_bd hco HWT.out.1 HWT.out.2
     have hlb := truthT_bd (a := h.aft) (f := h.fore) (w := wt) 1 ⟨HK.out.a0, HK.out.a1⟩ ⟨HK.out.f0, HK.out.f1⟩ hco HWT.out.1 HWT.out.2 hin.1 hin.2.1 hin.2.2.1 hin.2.2.2
     have hab := truthAcc_bd HK.out HTR.out 1 HWT.out.1 HWT.out.2 (show j ≤ 10 by omega)
     have hsu : accP (truthT tw tl h.aft h.fore 1 wt) h.ps (j + 1) = accP (truthT tw tl h.aft h.fore 1 wt) h.ps j + armK h.aft h.fore 1 c * (TW - TL * overP c wt) := by rw [accP_succ hx]; unfold truthT; rw [htw, htl]; rfl
     obtain ⟨bb, off, rfl, _, d0, d1, d2, d3, d4, d5, d6⟩ := stAt (hO2.rdN HP2.out (by omega)) hx
     obtain ⟨b1, o1, rfl, hb1, t1⟩ := (hO2.rd1 HW2.out (by omega)) j TW htw
     obtain ⟨b2, o2, rfl, hb2, t2⟩ := (hO2.rd1 HL2.out (by omega)) j TL htl
     obtain ⟨s9, s10⟩ := HG.out _ hO2
     obtain ⟨y4, y5⟩ := HT.out _ hO2
     have ha := fun V (hb : BW wk V) => arm103_any c gb h.aft V (keepC hb s9) ⟨hco.p0, hco.p1⟩ ⟨HK.out.a0, HK.out.a1⟩
     have har : c.pos - h.aft = armK h.aft h.fore 1 c := rfl
     rw [har] at ha
     obtain ⟨AR, hAR⟩ := ex (armK h.aft h.fore 1 c)
     rw [hAR] at ha hlb hsu
     obtain ⟨OV, hOV⟩ := ex (overP c wt)
     have hO5 : max 0 (wt - c.keel) = OV := hOV
     rw [hOV] at hlb hov hsu
     have hsw : IntKind.i64.wrap (wt - c.keel) = wt - c.keel := by have := HWT.out; have := hco.k0; have := hco.k1; rw [IntKind.wrap_i64]; omega
     have hw3 : IntKind.i64.wrap (TL * OV) = TL * OV := by have := mul_bd (show 0 ≤ TL by have := hco.l0; omega) (show TL ≤ 5000 by have := hco.l2; omega) hov.1 hov.2; rw [IntKind.wrap_i64]; omega
     have hpb := press_bd (W := TW) (L := TL) (o := OV) (by have := hco.w0; omega) (by have := hco.w2; omega) (by have := hco.l0; omega) (by have := hco.l2; omega) hov.1 hov.2
     obtain ⟨PR, hPR⟩ := ex (TW - TL * OV)
     rw [hPR] at hlb hpb hsu
     have hw4 : IntKind.i64.wrap (TW - TL * OV) = PR := by rw [hPR, IntKind.wrap_i64]; omega
     obtain ⟨ACC, hACC⟩ := ex (accP (truthT tw tl h.aft h.fore 1 wt) h.ps j)
     rw [hACC] at K4 hab hsu
     have hw1 : IntKind.i64.wrap (AR * PR) = AR * PR := by rw [IntKind.wrap_i64]; omega
     have hw2 : IntKind.i64.wrap (ACC + AR * PR) = ACC + AR * PR := by rw [IntKind.wrap_i64]; omega
     have HA := Lq ha
     have HSUM := Lq hsu
     have hjz : (j : Int) < (h.ps.length : Int) := by omega
     have hj0 : (0 : Int) ≤ (j : Int) := by omega
     have HTL := HTR.out.1
     have HTL2 := HTR.out.2.1
     rw [HTL] at y4
     rw [HTL2] at y5
     clear hx hco hov hlb hab hsu ha har hAR hOV hACC s9 s10 hO2 htw htl hin hpb hPR HTL HTL2
     obtain ⟨name, pos, wlo, whi, keel, llo, lhi⟩ := c
     simp only at d0 d1 d2 d3 d4 d5 d6 hO5 hsw
     obtain ⟨gx, hgx⟩ := ex wk.heap.size
     obtain ⟨W5, hW5⟩ := ex (wk.alloc (.cells #[.string name, iv pos, iv wlo, iv whi, iv keel, iv llo, iv lhi] 42))
     have hb5 : BW wk W5 := by rw [← hW5]; exact belowA (belowR _) _
     have kx : Blk W5 gx 42 #[.string name, iv pos, iv wlo, iv whi, iv keel, iv llo, iv lhi] := by rw [← hW5, ← hgx]; exact Blk.new wk 42 _
     have k6 : Blk W5 g6 137 #[.func (.func 103) #[] #[.pointer (some ⟨gb, 0, none⟩)], .func (.func 105) #[] #[], .func (.func 106) #[] #[]] := (HOW.out.more hb5).blk K6.out (by omega)
     have k4 : Blk W5 g4 123 #[iv (truthK h tw tl 0 wt), iv ACC, iv 0] := K4.out.same (hb5.block _ K4.out.lt)
     have hgx6 : g6 < gx := by omega
     have hHS : ∀ W, BW W5 W → W.cell? ⟨g6, 0, none⟩ = some (.func (.func 103) #[] #[.pointer (some ⟨gb, 0, none⟩)]) ∧ W.cell? ⟨gx, 0, none⟩ = some (.string name) ∧ W.cell? ⟨gx, 1, none⟩ = some (iv pos) ∧ W.cell? ⟨gx, 2, none⟩ = some (iv wlo) ∧ W.cell? ⟨gx, 3, none⟩ = some (iv whi) ∧ W.cell? ⟨gx, 4, none⟩ = some (iv keel) ∧ W.cell? ⟨gx, 5, none⟩ = some (iv llo) ∧ W.cell? ⟨gx, 6, none⟩ = some (iv lhi) ∧ W.cell? ⟨gt, 0, none⟩ = some (.slice (some ⟨b1, o1, none⟩) h.ps.length cw) ∧ W.cell? ⟨gt, 1, none⟩ = some (.slice (some ⟨b2, o2, none⟩) h.ps.length cl) ∧ W.cell? ⟨b1, o1 + j, none⟩ = some (iv TW) ∧ W.cell? ⟨b2, o2 + j, none⟩ = some (iv TL) := fun W hb => ⟨(k6.same (hb.block _ k6.lt)).cell 0, (kx.same (hb.block _ kx.lt)).cell 0, (kx.same (hb.block _ kx.lt)).cell 1, (kx.same (hb.block _ kx.lt)).cell 2, (kx.same (hb.block _ kx.lt)).cell 3, (kx.same (hb.block _ kx.lt)).cell 4, (kx.same (hb.block _ kx.lt)).cell 5, (kx.same (hb.block _ kx.lt)).cell 6, keepC (belowT hb5 hb) y4, keepC (belowT hb5 hb) y5, keepC (belowT hb5 hb) t1, keepC (belowT hb5 hb) t2⟩
     have h4 : ∀ W, BW W5 W → Blk W g4 123 #[iv (truthK h tw tl 0 wt), iv ACC, iv 0] := fun W hb => k4.same (hb.block _ k4.lt)
     have HB5 := Lq hb5
     have HHS := Lq hHS
     have H4 := Lq h4
     clear hb5 kx k6 k4 hHS h4 t1 t2 y4 y5
     go_upto_region 7 with fail
     clear hW5 hgx d0 d1 d2 d3 d4 d5 d6
     refine reg56_1 hlt hg46 hgx6 (by omega) (by omega) (by omega) hsw hO5 hw3 hw4 hw1 hw2 (fun W hb => ⟨(H4.out W hb).cell 1, (H4.out W hb).frozen 1, (H4.out W hb).lt⟩) (fun W hb => HA.out W (belowT HB5.out hb)) HHS.out ?_
     intro u100 u101 u102 u103 u104 u105 u106 u107 u108 u109 u110 u111 u112 u113 u114 u115 u116 u117 u118 u119 u120 u121 u122 u123 u124 u125 u126 wx hwx
     obtain ⟨w7, hb7, rfl⟩ := hwx
     have HREL : Hid (OnlyAt W3 (w7.setCell ⟨g4, 1, none⟩ (iv (ACC + AR * PR))) g4 ∧ Blk (w7.setCell ⟨g4, 1, none⟩ (iv (ACC + AR * PR))) g4 123 #[iv (truthK h tw tl 0 wt), iv (accP (truthT tw tl h.aft h.fore 1 wt) h.ps (j + 1)), iv 0]) := Lq ⟨(HOW.out.more (belowT HB5.out hb7)).set 1 _, by rw [HSUM.out]; exact (H4.out w7 hb7).set_ 1 _⟩
     clear hb7 hsw hO5 hw3 hw4 hw1 hw2
     go_wp2_with fail
     go_roundw
     case rel => exact ⟨j + 1, by omega, by go_num, Lq HREL.out.1, Lq HREL.out.2⟩
     case measure => simp [intOf]; omega
    ·obtain rfl : j = h.ps.length := by omega
     have HO9 := Lq hO2
     have K9 : Hid (Blk wk g4 123 #[iv (truthK h tw tl 0 wt), iv (truthK h tw tl 1 wt), iv 0]) := K4
     clear HOW K4 hO2
     go_wp2_with fail
     go_roundw
     case rel => exact ⟨HO9, .inr (.inr (.inl ⟨rfl, K9⟩))⟩
     case measure => simp [intOf]
  ·
   have hk6 : Blk wr g4 123 #[iv (truthK h tw tl 0 wt), iv (truthK h tw tl 1 wt), iv 0] := J4.out
   have hO6 : OnlyAt W2 wr g4 := HO.out
   obtain ⟨g6, hg6⟩ := ex wr.heap.size
   obtain ⟨W3, hW3⟩ := ex (wr.alloc (.cells #[.func (.func 104) #[] #[.pointer (some ⟨gb, 0, none⟩)], .func (.func 105) #[] #[], .func (.func 106) #[] #[]] 137))
   have hb3 : BW wr W3 := by rw [← hW3]; exact belowA (belowR _) _
   have k6 : Blk W3 g6 137 #[.func (.func 104) #[] #[.pointer (some ⟨gb, 0, none⟩)], .func (.func 105) #[] #[], .func (.func 106) #[] #[]] := by rw [← hW3, ← hg6]; exact Blk.new wr 137 _
   have hO3 := hO6.more hb3
   obtain ⟨p0, p1, p2⟩ := HC.out _ hO3
   have HO3 := Lq hO3
   have K4 : Hid (Blk W3 g4 123 #[iv (truthK h tw tl 0 wt), iv (truthK h tw tl 1 wt), iv 0]) := Lq (hk6.same (hb3.block _ hk6.lt))
   have K6 := Lq k6
   have hg46 : g4 < g6 := by have := hk6.lt; omega
   have hzr : w.heap.size + 3 < g6 := by have := hO6.size; omega
   have hz3 : g6 < W3.heap.size := k6.lt
   clear hk6 hO6 hb3 k6 hO3 J4 HO
   go_wp2_with fail
   clear hW3 hg6
   go_loopw [21] (fun vj wr => ∃ j : Nat, j ≤ h.ps.length ∧ vj = iv j ∧ Hid (OnlyAt W3 wr g4) ∧ Hid (Blk wr g4 123 #[iv (truthK h tw tl 0 wt), iv (truthK h tw tl 1 wt), iv (accP (truthT tw tl h.aft h.fore 2 wt) h.ps j)])) (fun vj _ => h.ps.length - (intOf vj).toNat)
   case atStart => exact ⟨0, Nat.zero_le _, rfl, Lq (OnlyAt.of_below (belowR _) _), K4⟩
   case round =>
    clear K4 p0 p1 p2
    rename World => wk
    obtain ⟨j, hj, rfl, HOW, K4⟩ := hrel
    have hO2 := HO3.out.trans HOW.out
    have hzw := HOW.out.size
    by_cases hlt : j < h.ps.length
    ·obtain ⟨c, hx⟩ : ∃ c, h.ps[j]? = some c := ⟨_, List.getElem?_eq_getElem hlt⟩
     obtain ⟨TW, htw⟩ : ∃ c, tw[j]? = some c := ⟨_, List.getElem?_eq_getElem (by rw [HTR.out.1]; exact hlt)⟩
     obtain ⟨TL, htl⟩ : ∃ c, tl[j]? = some c := ⟨_, List.getElem?_eq_getElem (by rw [HTR.out.2.1]; exact hlt)⟩
     have hco := HK.out.ps j c hx
     have hin := HTR.out.2.2 j c hx
     rw [htw, htl] at hin
     simp only [Option.getD_some] at hin
     have hov := overP_bd hco HWT.out.1 HWT.out.2
     have hlb := truthT_bd (a := h.aft) (f := h.fore) (w := wt) 2 ⟨HK.out.a0, HK.out.a1⟩ ⟨HK.out.f0, HK.out.f1⟩ hco HWT.out.1 HWT.out.2 hin.1 hin.2.1 hin.2.2.1 hin.2.2.2
     have hab := truthAcc_bd HK.out HTR.out 2 HWT.out.1 HWT.out.2 (show j ≤ 10 by omega)
     have hsu : accP (truthT tw tl h.aft h.fore 2 wt) h.ps (j + 1) = accP (truthT tw tl h.aft h.fore 2 wt) h.ps j + armK h.aft h.fore 2 c * (TW - TL * overP c wt) := by rw [accP_succ hx]; unfold truthT; rw [htw, htl]; rfl
     obtain ⟨bb, off, rfl, _, d0, d1, d2, d3, d4, d5, d6⟩ := stAt (hO2.rdN HP2.out (by omega)) hx
     obtain ⟨b1, o1, rfl, hb1, t1⟩ := (hO2.rd1 HW2.out (by omega)) j TW htw
     obtain ⟨b2, o2, rfl, hb2, t2⟩ := (hO2.rd1 HL2.out (by omega)) j TL htl
     obtain ⟨s9, s10⟩ := HG.out _ hO2
     obtain ⟨y4, y5⟩ := HT.out _ hO2
     have ha := fun V (hb : BW wk V) => arm104_any c gb h.fore V (keepC hb s10) ⟨hco.p0, hco.p1⟩ ⟨HK.out.f0, HK.out.f1⟩
     have har : h.fore - c.pos = armK h.aft h.fore 2 c := rfl
     rw [har] at ha
     obtain ⟨AR, hAR⟩ := ex (armK h.aft h.fore 2 c)
     rw [hAR] at ha hlb hsu
     obtain ⟨OV, hOV⟩ := ex (overP c wt)
     have hO5 : max 0 (wt - c.keel) = OV := hOV
     rw [hOV] at hlb hov hsu
     have hsw : IntKind.i64.wrap (wt - c.keel) = wt - c.keel := by have := HWT.out; have := hco.k0; have := hco.k1; rw [IntKind.wrap_i64]; omega
     have hw3 : IntKind.i64.wrap (TL * OV) = TL * OV := by have := mul_bd (show 0 ≤ TL by have := hco.l0; omega) (show TL ≤ 5000 by have := hco.l2; omega) hov.1 hov.2; rw [IntKind.wrap_i64]; omega
     have hpb := press_bd (W := TW) (L := TL) (o := OV) (by have := hco.w0; omega) (by have := hco.w2; omega) (by have := hco.l0; omega) (by have := hco.l2; omega) hov.1 hov.2
     obtain ⟨PR, hPR⟩ := ex (TW - TL * OV)
     rw [hPR] at hlb hpb hsu
     have hw4 : IntKind.i64.wrap (TW - TL * OV) = PR := by rw [hPR, IntKind.wrap_i64]; omega
     obtain ⟨ACC, hACC⟩ := ex (accP (truthT tw tl h.aft h.fore 2 wt) h.ps j)
     rw [hACC] at K4 hab hsu
     have hw1 : IntKind.i64.wrap (AR * PR) = AR * PR := by rw [IntKind.wrap_i64]; omega
     have hw2 : IntKind.i64.wrap (ACC + AR * PR) = ACC + AR * PR := by rw [IntKind.wrap_i64]; omega
     have HA := Lq ha
     have HSUM := Lq hsu
     have hjz : (j : Int) < (h.ps.length : Int) := by omega
     have hj0 : (0 : Int) ≤ (j : Int) := by omega
     have HTL := HTR.out.1
     have HTL2 := HTR.out.2.1
     rw [HTL] at y4
     rw [HTL2] at y5
     clear hx hco hov hlb hab hsu ha har hAR hOV hACC s9 s10 hO2 htw htl hin hpb hPR HTL HTL2
     obtain ⟨name, pos, wlo, whi, keel, llo, lhi⟩ := c
     simp only at d0 d1 d2 d3 d4 d5 d6 hO5 hsw
     obtain ⟨gx, hgx⟩ := ex wk.heap.size
     obtain ⟨W5, hW5⟩ := ex (wk.alloc (.cells #[.string name, iv pos, iv wlo, iv whi, iv keel, iv llo, iv lhi] 42))
     have hb5 : BW wk W5 := by rw [← hW5]; exact belowA (belowR _) _
     have kx : Blk W5 gx 42 #[.string name, iv pos, iv wlo, iv whi, iv keel, iv llo, iv lhi] := by rw [← hW5, ← hgx]; exact Blk.new wk 42 _
     have k6 : Blk W5 g6 137 #[.func (.func 104) #[] #[.pointer (some ⟨gb, 0, none⟩)], .func (.func 105) #[] #[], .func (.func 106) #[] #[]] := (HOW.out.more hb5).blk K6.out (by omega)
     have k4 : Blk W5 g4 123 #[iv (truthK h tw tl 0 wt), iv (truthK h tw tl 1 wt), iv ACC] := K4.out.same (hb5.block _ K4.out.lt)
     have hgx6 : g6 < gx := by omega
     have hHS : ∀ W, BW W5 W → W.cell? ⟨g6, 0, none⟩ = some (.func (.func 104) #[] #[.pointer (some ⟨gb, 0, none⟩)]) ∧ W.cell? ⟨gx, 0, none⟩ = some (.string name) ∧ W.cell? ⟨gx, 1, none⟩ = some (iv pos) ∧ W.cell? ⟨gx, 2, none⟩ = some (iv wlo) ∧ W.cell? ⟨gx, 3, none⟩ = some (iv whi) ∧ W.cell? ⟨gx, 4, none⟩ = some (iv keel) ∧ W.cell? ⟨gx, 5, none⟩ = some (iv llo) ∧ W.cell? ⟨gx, 6, none⟩ = some (iv lhi) ∧ W.cell? ⟨gt, 0, none⟩ = some (.slice (some ⟨b1, o1, none⟩) h.ps.length cw) ∧ W.cell? ⟨gt, 1, none⟩ = some (.slice (some ⟨b2, o2, none⟩) h.ps.length cl) ∧ W.cell? ⟨b1, o1 + j, none⟩ = some (iv TW) ∧ W.cell? ⟨b2, o2 + j, none⟩ = some (iv TL) := fun W hb => ⟨(k6.same (hb.block _ k6.lt)).cell 0, (kx.same (hb.block _ kx.lt)).cell 0, (kx.same (hb.block _ kx.lt)).cell 1, (kx.same (hb.block _ kx.lt)).cell 2, (kx.same (hb.block _ kx.lt)).cell 3, (kx.same (hb.block _ kx.lt)).cell 4, (kx.same (hb.block _ kx.lt)).cell 5, (kx.same (hb.block _ kx.lt)).cell 6, keepC (belowT hb5 hb) y4, keepC (belowT hb5 hb) y5, keepC (belowT hb5 hb) t1, keepC (belowT hb5 hb) t2⟩
     have h4 : ∀ W, BW W5 W → Blk W g4 123 #[iv (truthK h tw tl 0 wt), iv (truthK h tw tl 1 wt), iv ACC] := fun W hb => k4.same (hb.block _ k4.lt)
     have HB5 := Lq hb5
     have HHS := Lq hHS
     have H4 := Lq h4
     clear hb5 kx k6 k4 hHS h4 t1 t2 y4 y5
     go_upto_region 7 with fail
     clear hW5 hgx d0 d1 d2 d3 d4 d5 d6
     refine reg56_2 hlt hg46 hgx6 (by omega) (by omega) (by omega) hsw hO5 hw3 hw4 hw1 hw2 (fun W hb => ⟨(H4.out W hb).cell 2, (H4.out W hb).frozen 2, (H4.out W hb).lt⟩) (fun W hb => HA.out W (belowT HB5.out hb)) HHS.out ?_
     intro u100 u101 u102 u103 u104 u105 u106 u107 u108 u109 u110 u111 u112 u113 u114 u115 u116 u117 u118 u119 u120 u121 u122 u123 u124 u125 u126 wx hwx
     obtain ⟨w7, hb7, rfl⟩ := hwx
     have HREL : Hid (OnlyAt W3 (w7.setCell ⟨g4, 2, none⟩ (iv (ACC + AR * PR))) g4 ∧ Blk (w7.setCell ⟨g4, 2, none⟩ (iv (ACC + AR * PR))) g4 123 #[iv (truthK h tw tl 0 wt), iv (truthK h tw tl 1 wt), iv (accP (truthT tw tl h.aft h.fore 2 wt) h.ps (j + 1))]) := Lq ⟨(HOW.out.more (belowT HB5.out hb7)).set 2 _, by rw [HSUM.out]; exact (H4.out w7 hb7).set_ 2 _⟩
     clear hb7 hsw hO5 hw3 hw4 hw1 hw2
     go_wp2_with fail
     go_roundw
     case rel => exact ⟨j + 1, by omega, by go_num, Lq HREL.out.1, Lq HREL.out.2⟩
     case measure => simp [intOf]; omega
    ·obtain rfl : j = h.ps.length := by omega
     have HO9 := Lq hO2
     have K9 : Hid (Blk wk g4 123 #[iv (truthK h tw tl 0 wt), iv (truthK h tw tl 1 wt), iv (truthK h tw tl 2 wt)]) := K4
     clear HOW K4 hO2
     go_wp2_with fail
     go_roundw
     case rel => exact ⟨HO9, .inr (.inr (.inr ⟨rfl, K9⟩))⟩
     case measure => simp [intOf]
  ·have k4 := J4.out
   have y0 := k4.c 0
   have y1 := k4.c 1
   have y2 := k4.c 2
   have f0 := k4.frozen 0
   have f1 := k4.frozen 1
   have f2 := k4.frozen 2
   have hl := k4.lt
   have hbz := HO.out.below HB2.out (by omega)
   clear k4
   go_wp2_with fail
   obtain ⟨wx, hwx⟩ := ex (((wr.setCell ⟨g4, 0, none⟩ (iv (truthK h tw tl 0 wt))).setCell ⟨g4, 1, none⟩ (iv (truthK h tw tl 1 wt))).setCell ⟨g4, 2, none⟩ (iv (truthK h tw tl 2 wt)))
   have kx : Blk wx g4 123 #[iv (truthK h tw tl 0 wt), iv (truthK h tw tl 1 wt), iv (truthK h tw tl 2 wt)] := by
    rw [← hwx]
    exact ((J4.out.set_ 0 _).set_ 1 _).set_ 2 _
   have hbx : BW w wx := by
    rw [← hwx]
    exact belowS (belowS (belowS hbz (by dsimp only; omega) _) (by dsimp only; omega) _) (by dsimp only; omega) _
   rw [hwx]
   have y0 := kx.c 0
   have y1 := kx.c 1
   have y2 := kx.c 2
   clear hwx f0 f1 f2
   refine bodyPost_ret (v := sumsV (truthK h tw tl 0 wt) (truthK h tw tl 1 wt) (truthK h tw tl 2 wt)) (by simp [results, Tryz.results56, go_sem, y0, y1, y2]) rfl ?_
   exact ⟨rfl, hbx⟩
theorem open55_any (h : StH) (A : Option Addr) (B cap : Nat) (tw tl : List Int) (AW AL : Option Addr) (cw cl : Nat) (wt : Int) (w : World) (hH : H5Rd w B h A cap) (hT : T5Rd w B tw tl AW AL) (hB : B ≤ w.heap.size) (hc : chk5 h = (0, 0, 0)) (ht : TruthOf h tw tl) (h0 : 0 ≤ wt) (h1 : wt ≤ 1000) :
  Calls Tryz.prog 55 #[h5V h A cap, t5V tw tl AW AL cw cl, iv wt] w (Rt w (.tuple #[h5V h A cap, iv 0])) := by
 have hl1 := ht.1
 have hl2 := ht.2.1
 have hok := (chk5_iff.1 (by rw [hc])).1
 have hn10 := hok.n10
 obtain ⟨gt, hgt⟩ := ex (w.heap.size + 1)
 obtain ⟨g6, hg6⟩ := ex (gt + 1)
 obtain ⟨W1, hW1⟩ := ex ((((w.alloc (.cells #[.slice A h.ps.length cap, iv h.aft, iv h.fore] 24)).alloc (.cells #[.slice AW h.ps.length cw, .slice AL h.ps.length cl] 49)).alloc (.cells #[.slice none 0 0, iv 0, iv 0] 119)))
 have hbW1 : BW w W1 := by rw [← hW1]; exact (belowA (belowA (belowA (belowR _) _) _) _)
 have hzW1 : W1.heap.size = w.heap.size + 3 := by rw [← hW1]; simp
 have k0 : Blk W1 w.heap.size 24 #[.slice A h.ps.length cap, iv h.aft, iv h.fore] := by
  rw [← hW1]
  exact ((Blk.new w 24 #[.slice A h.ps.length cap, iv h.aft, iv h.fore]).alloc (.cells #[.slice AW h.ps.length cw, .slice AL h.ps.length cl] 49)).alloc (.cells #[.slice none 0 0, iv 0, iv 0] 119)
 have k1 : Blk W1 gt 49 #[.slice AW h.ps.length cw, .slice AL h.ps.length cl] := by
  rw [← hW1, ← hgt]
  have := (Blk.new (w.alloc (.cells #[.slice A h.ps.length cap, iv h.aft, iv h.fore] 24)) 49 #[.slice AW h.ps.length cw, .slice AL h.ps.length cl]).alloc (.cells #[.slice none 0 0, iv 0, iv 0] 119)
  rw [World.size_alloc] at this
  exact this
 have k2 : Blk W1 g6 119 #[.slice none 0 0, iv 0, iv 0] := by
  rw [← hW1, ← hg6, ← hgt]
  have := Blk.new ((w.alloc (.cells #[.slice A h.ps.length cap, iv h.aft, iv h.fore] 24)).alloc (.cells #[.slice AW h.ps.length cw, .slice AL h.ps.length cl] 49)) 119 #[.slice none 0 0, iv 0, iv 0]
  rw [World.size_alloc, World.size_alloc] at this
  exact this
 have HS1 := Lq (fun V (hb : BW W1 V) => strange95_any h.ps tw A AW B cap cw V ((hH.ps.below hbW1 hB).below hb (by omega)) ((hT.ws.below hbW1 hB).below hb (by omega)) (by have := hb.size; omega) hn10 hl1 (fun i x hx => ⟨(ht.2.2 i x hx).1, (ht.2.2 i x hx).2.1⟩))
 have HS2 := Lq (fun V (hb : BW W1 V) => strange96_any h.ps tl A AL B cap cl V ((hH.ps.below hbW1 hB).below hb (by omega)) ((hT.ls.below hbW1 hB).below hb (by omega)) (by have := hb.size; omega) hn10 hl2 (fun i x hx => ⟨(ht.2.2 i x hx).2.2.1, (ht.2.2 i x hx).2.2.2⟩))
 have HWE := Lq (fun V (hb : BW W1 V) => wet58_any h A B cap wt V ((hH.below hbW1 hB).below hb (by omega)) (by have := hb.size; omega) hc h0 h1)
 have hck := check60_any h A B cap W1 (hH.below hbW1 hB) (by omega)
 rw [hc] at hck
 have HCK := Lq hck
 rw [hl1] at HS1
 rw [hl2] at HS2
 rw [show t5V tw tl AW AL cw cl = .agg #[.slice AW h.ps.length cw, .slice AL h.ps.length cl] by unfold t5V; rw [hl1, hl2]]
 have HB1 := Lq hbW1
 have HC : Hid (∀ V, BW W1 V → Blk V w.heap.size 24 #[.slice A h.ps.length cap, iv h.aft, iv h.fore] ∧ Blk V gt 49 #[.slice AW h.ps.length cw, .slice AL h.ps.length cl] ∧ Blk V g6 119 #[.slice none 0 0, iv 0, iv 0]) := Lq fun V hb => ⟨k0.same (hb.block _ k0.lt), k1.same (hb.block _ k1.lt), k2.same (hb.block _ k2.lt)⟩
 have p0 := k0.c 0
 have p1 := k0.c 1
 have p2 := k0.c 2
 clear hH hT hc ht hok hn10 hl1 hl2 hck hbW1 k0 k1 k2 h0 h1
 go_enter Tryz.func55, Tryz.ntmps55
 go_wp2_with fail
 refine HCK.out.mono ?_
 rintro e w2 ⟨rfl, hb2⟩
 have X2 := Lq hb2
 clear hb2 p0 p1 p2 hW1 HCK
 have p0 := (HC.out _ X2.out).1.c 0
 have r0 := (HC.out _ X2.out).2.1.c 0
 have r1 := (HC.out _ X2.out).2.1.c 1
 unfold ret3
 go_wp2_with fail
 refine (HS1.out _ X2.out).mono ?_
 rintro e w3 ⟨rfl, hb3⟩
 have X3 := Lq (belowT X2.out hb3)
 clear hb3 p0 r0 r1
 have p0 := (HC.out _ X3.out).1.c 0
 have r1 := (HC.out _ X3.out).2.1.c 1
 go_wp2_with fail
 refine (HS2.out _ X3.out).mono ?_
 rintro e w4 ⟨rfl, hb4⟩
 have X4 := Lq (belowT X3.out hb4)
 clear hb4 p0 r1
 have p0 := (HC.out _ X4.out).1.c 0
 have p1 := (HC.out _ X4.out).1.c 1
 have p2 := (HC.out _ X4.out).1.c 2
 go_wp2_with fail
 refine (HWE.out _ X4.out).mono ?_
 rintro e w9 ⟨rfl, hb5⟩
 have X9 := Lq (belowT X4.out hb5)
 have HBX := Lq (belowT HB1.out X9.out)
 have K9 := Lq (HC.out _ X9.out).2.2
 clear hb5 p0 p1 p2
 have f0 := K9.out.frozen 0
 have f1 := K9.out.frozen 1
 have f2 := K9.out.frozen 2
 have hl := K9.out.lt
 have q0 := K9.out.c 0
 have q1 := K9.out.c 1
 have q2 := K9.out.c 2
 go_wp2_with fail
 clear f0 f1 f2 q0 q1 q2
 obtain ⟨wx, hwx⟩ := ex ((((w9.setCell ⟨g6, 0, none⟩ (.slice A h.ps.length cap)).setCell ⟨g6, 1, none⟩ (iv h.aft)).setCell ⟨g6, 2, none⟩ (iv h.fore)))
 have kx : Blk wx g6 119 #[.slice A h.ps.length cap, iv h.aft, iv h.fore] := by
  rw [← hwx]
  exact (((K9.out.set_ 0 _).set_ 1 _).set_ 2 _)
 have hbx : BW w wx := by
  rw [← hwx]
  exact (belowS (belowS (belowS HBX.out (by dsimp only; omega) _) (by dsimp only; omega) _) (by dsimp only; omega) _)
 rw [hwx]
 have y0 := kx.c 0
 have y1 := kx.c 1
 have y2 := kx.c 2
 clear hwx
 refine bodyPost_ret (v := .tuple #[h5V h A cap, iv 0]) (by simp [results, Tryz.results55, go_sem, y0, y1, y2]) rfl ?_
 exact ⟨rfl, hbx⟩
end Go.Proofs.YtmhjhbchokbonaaGreat
