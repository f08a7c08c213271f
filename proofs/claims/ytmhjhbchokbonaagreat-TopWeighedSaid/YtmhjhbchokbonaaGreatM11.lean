/- The least sums: the region that adds a press (printed by mkT6r.py). -/
import Derived.Deep.RegionHeld3
import Derived.Test.YtmhjhbchokbonaaGreatM0
import Derived.Test.YtmhjhbchokbonaaGreatM10
set_option maxRecDepth 1000000
set_option maxHeartbeats 16000000
namespace Go.Proofs.YtmhjhbchokbonaaGreat
open Go.RowKit
noncomputable def ops59_11 : Array Oper := opsOf (regionOf Tryz.f59 11)
theorem reg59_0_105 {Q : Exit → Act → World → Prop} {V : World} {g4 g6 gx : Nat} {name : ByteArray} {pos wlo whi keel llo lhi OV AR PR ACC : Int} {z0 z1 z2 z3 z7 z11 z12 z13 z14 z15 z16 z17 z18 z19 z20 z21 z22 z23 z24 z25 z26 z27 z28 z29 z30 z31 z32 z33 z34 z35 z36 z37 z38 z39 z40 z41 z42 z43 z44 z45 z46 z47 z48 z49 z50 z51 z52 z53 z54 z55 z56 : Value} (h46 : g4 < g6) (h6x : g6 < gx) (hw1 : IntKind.i64.wrap (AR * PR) = AR * PR) (hw2 : IntKind.i64.wrap (ACC + AR * PR) = ACC + AR * PR)
  (h4 : ∀ W, BW V W → W.cell? ⟨g4, 0, none⟩ = some (iv ACC) ∧ W.frozen? ⟨g4, 0, none⟩ = false ∧ g4 < W.heap.size)
  (hA : ∀ W, BW V W → Calls Tryz.prog 102 #[.agg #[.string name, iv pos, iv wlo, iv whi, iv keel, iv llo, iv lhi]] W (Rt W (iv AR)))
  (hP : ∀ W, BW V W → Calls Tryz.prog 105 #[.agg #[.string name, iv pos, iv wlo, iv whi, iv keel, iv llo, iv lhi, iv OV]] W (Rt W (iv PR)))
  (hS : ∀ W, BW V W → W.cell? ⟨g6, 0, none⟩ = some (.func (.func 102) #[] #[]) ∧ W.cell? ⟨gx, 0, none⟩ = some (.string name) ∧ W.cell? ⟨gx, 1, none⟩ = some (iv pos) ∧ W.cell? ⟨gx, 2, none⟩ = some (iv wlo) ∧ W.cell? ⟨gx, 3, none⟩ = some (iv whi) ∧ W.cell? ⟨gx, 4, none⟩ = some (iv keel) ∧ W.cell? ⟨gx, 5, none⟩ = some (iv llo) ∧ W.cell? ⟨gx, 6, none⟩ = some (iv lhi) ∧ W.cell? ⟨gx + 1, 0, none⟩ = some (.string name) ∧ W.cell? ⟨gx + 1, 1, none⟩ = some (iv pos) ∧ W.cell? ⟨gx + 1, 2, none⟩ = some (iv wlo) ∧ W.cell? ⟨gx + 1, 3, none⟩ = some (iv whi) ∧ W.cell? ⟨gx + 1, 4, none⟩ = some (iv keel) ∧ W.cell? ⟨gx + 1, 5, none⟩ = some (iv llo) ∧ W.cell? ⟨gx + 1, 6, none⟩ = some (iv lhi) ∧ W.cell? ⟨gx + 1, 7, none⟩ = some (iv OV))
  (hQ : ∀  u41 u42 u43 u44 u45 u46 u47 u48 u49 u50 u51 u52 u53 wx, (∃ w7, BW V w7 ∧ wx = w7.setCell ⟨g4, 0, none⟩ (iv (ACC + AR * PR))) → Q .normal ⟨#[z0, z1, z2, z3, .pointer (some ⟨g4, 0, none⟩), iv 0, .pointer (some ⟨g6, 0, none⟩), z7, .pointer (some ⟨gx, 0, none⟩), .pointer (some ⟨gx + 1, 0, none⟩), .func (.func 105) #[] #[], z11, z12, z13, z14, z15, z16, z17, z18, z19, z20, z21, z22, z23, z24, z25, z26, z27, z28, z29, z30, z31, z32, z33, z34, z35, z36, z37, z38, z39, z40, u41, u42, u43, u44, u45, u46, u47, u48, u49, u50, u51, u52, u53, z54, z55, z56], []⟩ wx) :
  (regionOf Tryz.f59 11).wp Tryz.prog Q ⟨#[z0, z1, z2, z3, .pointer (some ⟨g4, 0, none⟩), iv 0, .pointer (some ⟨g6, 0, none⟩), z7, .pointer (some ⟨gx, 0, none⟩), .pointer (some ⟨gx + 1, 0, none⟩), .func (.func 105) #[] #[], z11, z12, z13, z14, z15, z16, z17, z18, z19, z20, z21, z22, z23, z24, z25, z26, z27, z28, z29, z30, z31, z32, z33, z34, z35, z36, z37, z38, z39, z40, z41, z42, z43, z44, z45, z46, z47, z48, z49, z50, z51, z52, z53, z54, z55, z56], []⟩ V := by
 have H4 := Lq h4
 have HA := Lq hA
 have HP := Lq hP
 clear h4 hA hP
 have HS := Lq hS
 have HQ := Lq hQ
 clear hQ
 refine go0 (ops := ops59_11) (r := 11) (n := 14) hS fun V0 HB0 hHeld => ?_
 clear hS
 refine tk 0 (iv 0) ?_
 refine tk 3 (.pointer (some ⟨g6, 0, none⟩)) ?_
 refine tk 5 (.agg #[.string name, iv pos, iv wlo, iv whi, iv keel, iv llo, iv lhi]) ?_
 refine tk 7 (.func (.func 105) #[] #[]) ?_
 refine tk 8 (.agg #[.string name, iv pos, iv wlo, iv whi, iv keel, iv llo, iv lhi, iv OV]) ?_
 refine tk 1 (.pointer (some ⟨g4, 0, none⟩)) ?_
 refine tk 4 (.func (.func 102) #[] #[]) ?_
 refine rd2 2 6 (fun K' hK => ?_) fun K' hK => ?_
 ·obtain ⟨n4, _, _⟩ := H4.out _ HB0.out
  go_simp
  refine hK.out _ _ hHeld (fun hHeld => ?_)
  clear n4
  clear hK
  refine rd1 6 fun K' hK => ?_
  go_simp
  refine (HA.out _ HB0.out).mono ?_
  rintro e w6 ⟨rfl, hb⟩
  have HB6 := Lq (belowT HB0.out hb)
  clear hb
  refine hK.out _ _ (HS.out _ HB6.out) (fun hHeld => ?_)
  clear hK
  refine rd1 9 fun K' hK => ?_
  go_simp
  refine (HP.out _ HB6.out).mono ?_
  rintro e w9 ⟨rfl, hb⟩
  have HB9 := Lq (belowT HB6.out hb)
  clear hb
  refine hK.out _ _ (HS.out _ HB9.out) (fun hHeld => ?_)
  clear hK
  refine tk 10 (iv (AR * PR)) ?_
  refine tk 11 (iv (ACC + AR * PR)) ?_
  refine tk 12 (.pointer (some ⟨g4, 0, none⟩)) ?_
  refine rd1 13 fun K' hK => ?_
  obtain ⟨n4, f4, l4⟩ := H4.out _ HB9.out
  go_simp
  obtain ⟨q0, q1, q2, q3, q4, q5, q6, q7, q8, q9, q10, q11, q12, q13, q14, q15⟩ := HS.out _ HB9.out
  refine hK.out _ _ (by and_intros <;> exact keepSet (by assumption) (by omega)) (fun hHeld => ?_)
  clear q0 q1 q2 q3 q4 q5 q6 q7 q8 q9 q10 q11 q12 q13 q14 q15 n4 f4 l4
  clear hK
  refine wpAnyH_done (by kernel_rfl) ?_ _
  exact NoPanic.normal (HQ.out _ _ _ _ _ _ _ _ _ _ _ _ _ _ ⟨_, HB9.out, rfl⟩)
 ·go_simp
  refine (HA.out _ HB0.out).mono ?_
  rintro e w6 ⟨rfl, hb⟩
  have HB6 := Lq (belowT HB0.out hb)
  clear hb
  refine hK.out _ _ (HS.out _ HB6.out) (fun hHeld => ?_)
  clear hK
  refine rd2 2 9 (fun K' hK => ?_) fun K' hK => ?_
  ·obtain ⟨n4, _, _⟩ := H4.out _ HB6.out
   go_simp
   refine hK.out _ _ hHeld (fun hHeld => ?_)
   clear n4
   clear hK
   refine rd1 9 fun K' hK => ?_
   go_simp
   refine (HP.out _ HB6.out).mono ?_
   rintro e w9 ⟨rfl, hb⟩
   have HB9 := Lq (belowT HB6.out hb)
   clear hb
   refine hK.out _ _ (HS.out _ HB9.out) (fun hHeld => ?_)
   clear hK
   refine tk 10 (iv (AR * PR)) ?_
   refine tk 11 (iv (ACC + AR * PR)) ?_
   refine tk 12 (.pointer (some ⟨g4, 0, none⟩)) ?_
   refine rd1 13 fun K' hK => ?_
   obtain ⟨n4, f4, l4⟩ := H4.out _ HB9.out
   go_simp
   obtain ⟨q0, q1, q2, q3, q4, q5, q6, q7, q8, q9, q10, q11, q12, q13, q14, q15⟩ := HS.out _ HB9.out
   refine hK.out _ _ (by and_intros <;> exact keepSet (by assumption) (by omega)) (fun hHeld => ?_)
   clear q0 q1 q2 q3 q4 q5 q6 q7 q8 q9 q10 q11 q12 q13 q14 q15 n4 f4 l4
   clear hK
   refine wpAnyH_done (by kernel_rfl) ?_ _
   exact NoPanic.normal (HQ.out _ _ _ _ _ _ _ _ _ _ _ _ _ _ ⟨_, HB9.out, rfl⟩)
  ·go_simp
   refine (HP.out _ HB6.out).mono ?_
   rintro e w9 ⟨rfl, hb⟩
   have HB9 := Lq (belowT HB6.out hb)
   clear hb
   refine hK.out _ _ (HS.out _ HB9.out) (fun hHeld => ?_)
   clear hK
   refine tk 10 (iv (AR * PR)) ?_
   refine rd1 2 fun K' hK => ?_
   obtain ⟨n4, _, _⟩ := H4.out _ HB9.out
   go_simp
   refine hK.out _ _ hHeld (fun hHeld => ?_)
   clear n4
   clear hK
   refine tk 11 (iv (ACC + AR * PR)) ?_
   refine tk 12 (.pointer (some ⟨g4, 0, none⟩)) ?_
   refine rd1 13 fun K' hK => ?_
   obtain ⟨n4, f4, l4⟩ := H4.out _ HB9.out
   go_simp
   obtain ⟨q0, q1, q2, q3, q4, q5, q6, q7, q8, q9, q10, q11, q12, q13, q14, q15⟩ := HS.out _ HB9.out
   refine hK.out _ _ (by and_intros <;> exact keepSet (by assumption) (by omega)) (fun hHeld => ?_)
   clear q0 q1 q2 q3 q4 q5 q6 q7 q8 q9 q10 q11 q12 q13 q14 q15 n4 f4 l4
   clear hK
   refine wpAnyH_done (by kernel_rfl) ?_ _
   exact NoPanic.normal (HQ.out _ _ _ _ _ _ _ _ _ _ _ _ _ _ ⟨_, HB9.out, rfl⟩)
theorem reg59_0_106 {Q : Exit → Act → World → Prop} {V : World} {g4 g6 gx : Nat} {name : ByteArray} {pos wlo whi keel llo lhi OV AR PR ACC : Int} {z0 z1 z2 z3 z7 z11 z12 z13 z14 z15 z16 z17 z18 z19 z20 z21 z22 z23 z24 z25 z26 z27 z28 z29 z30 z31 z32 z33 z34 z35 z36 z37 z38 z39 z40 z41 z42 z43 z44 z45 z46 z47 z48 z49 z50 z51 z52 z53 z54 z55 z56 : Value} (h46 : g4 < g6) (h6x : g6 < gx) (hw1 : IntKind.i64.wrap (AR * PR) = AR * PR) (hw2 : IntKind.i64.wrap (ACC + AR * PR) = ACC + AR * PR)
  (h4 : ∀ W, BW V W → W.cell? ⟨g4, 0, none⟩ = some (iv ACC) ∧ W.frozen? ⟨g4, 0, none⟩ = false ∧ g4 < W.heap.size)
  (hA : ∀ W, BW V W → Calls Tryz.prog 102 #[.agg #[.string name, iv pos, iv wlo, iv whi, iv keel, iv llo, iv lhi]] W (Rt W (iv AR)))
  (hP : ∀ W, BW V W → Calls Tryz.prog 106 #[.agg #[.string name, iv pos, iv wlo, iv whi, iv keel, iv llo, iv lhi, iv OV]] W (Rt W (iv PR)))
  (hS : ∀ W, BW V W → W.cell? ⟨g6, 0, none⟩ = some (.func (.func 102) #[] #[]) ∧ W.cell? ⟨gx, 0, none⟩ = some (.string name) ∧ W.cell? ⟨gx, 1, none⟩ = some (iv pos) ∧ W.cell? ⟨gx, 2, none⟩ = some (iv wlo) ∧ W.cell? ⟨gx, 3, none⟩ = some (iv whi) ∧ W.cell? ⟨gx, 4, none⟩ = some (iv keel) ∧ W.cell? ⟨gx, 5, none⟩ = some (iv llo) ∧ W.cell? ⟨gx, 6, none⟩ = some (iv lhi) ∧ W.cell? ⟨gx + 1, 0, none⟩ = some (.string name) ∧ W.cell? ⟨gx + 1, 1, none⟩ = some (iv pos) ∧ W.cell? ⟨gx + 1, 2, none⟩ = some (iv wlo) ∧ W.cell? ⟨gx + 1, 3, none⟩ = some (iv whi) ∧ W.cell? ⟨gx + 1, 4, none⟩ = some (iv keel) ∧ W.cell? ⟨gx + 1, 5, none⟩ = some (iv llo) ∧ W.cell? ⟨gx + 1, 6, none⟩ = some (iv lhi) ∧ W.cell? ⟨gx + 1, 7, none⟩ = some (iv OV))
  (hQ : ∀  u41 u42 u43 u44 u45 u46 u47 u48 u49 u50 u51 u52 u53 wx, (∃ w7, BW V w7 ∧ wx = w7.setCell ⟨g4, 0, none⟩ (iv (ACC + AR * PR))) → Q .normal ⟨#[z0, z1, z2, z3, .pointer (some ⟨g4, 0, none⟩), iv 0, .pointer (some ⟨g6, 0, none⟩), z7, .pointer (some ⟨gx, 0, none⟩), .pointer (some ⟨gx + 1, 0, none⟩), .func (.func 106) #[] #[], z11, z12, z13, z14, z15, z16, z17, z18, z19, z20, z21, z22, z23, z24, z25, z26, z27, z28, z29, z30, z31, z32, z33, z34, z35, z36, z37, z38, z39, z40, u41, u42, u43, u44, u45, u46, u47, u48, u49, u50, u51, u52, u53, z54, z55, z56], []⟩ wx) :
  (regionOf Tryz.f59 11).wp Tryz.prog Q ⟨#[z0, z1, z2, z3, .pointer (some ⟨g4, 0, none⟩), iv 0, .pointer (some ⟨g6, 0, none⟩), z7, .pointer (some ⟨gx, 0, none⟩), .pointer (some ⟨gx + 1, 0, none⟩), .func (.func 106) #[] #[], z11, z12, z13, z14, z15, z16, z17, z18, z19, z20, z21, z22, z23, z24, z25, z26, z27, z28, z29, z30, z31, z32, z33, z34, z35, z36, z37, z38, z39, z40, z41, z42, z43, z44, z45, z46, z47, z48, z49, z50, z51, z52, z53, z54, z55, z56], []⟩ V := by
 have H4 := Lq h4
 have HA := Lq hA
 have HP := Lq hP
 clear h4 hA hP
 have HS := Lq hS
 have HQ := Lq hQ
 clear hQ
 refine go0 (ops := ops59_11) (r := 11) (n := 14) hS fun V0 HB0 hHeld => ?_
 clear hS
 refine tk 0 (iv 0) ?_
 refine tk 3 (.pointer (some ⟨g6, 0, none⟩)) ?_
 refine tk 5 (.agg #[.string name, iv pos, iv wlo, iv whi, iv keel, iv llo, iv lhi]) ?_
 refine tk 7 (.func (.func 106) #[] #[]) ?_
 refine tk 8 (.agg #[.string name, iv pos, iv wlo, iv whi, iv keel, iv llo, iv lhi, iv OV]) ?_
 refine tk 1 (.pointer (some ⟨g4, 0, none⟩)) ?_
 refine tk 4 (.func (.func 102) #[] #[]) ?_
 refine rd2 2 6 (fun K' hK => ?_) fun K' hK => ?_
 ·obtain ⟨n4, _, _⟩ := H4.out _ HB0.out
  go_simp
  refine hK.out _ _ hHeld (fun hHeld => ?_)
  clear n4
  clear hK
  refine rd1 6 fun K' hK => ?_
  go_simp
  refine (HA.out _ HB0.out).mono ?_
  rintro e w6 ⟨rfl, hb⟩
  have HB6 := Lq (belowT HB0.out hb)
  clear hb
  refine hK.out _ _ (HS.out _ HB6.out) (fun hHeld => ?_)
  clear hK
  refine rd1 9 fun K' hK => ?_
  go_simp
  refine (HP.out _ HB6.out).mono ?_
  rintro e w9 ⟨rfl, hb⟩
  have HB9 := Lq (belowT HB6.out hb)
  clear hb
  refine hK.out _ _ (HS.out _ HB9.out) (fun hHeld => ?_)
  clear hK
  refine tk 10 (iv (AR * PR)) ?_
  refine tk 11 (iv (ACC + AR * PR)) ?_
  refine tk 12 (.pointer (some ⟨g4, 0, none⟩)) ?_
  refine rd1 13 fun K' hK => ?_
  obtain ⟨n4, f4, l4⟩ := H4.out _ HB9.out
  go_simp
  obtain ⟨q0, q1, q2, q3, q4, q5, q6, q7, q8, q9, q10, q11, q12, q13, q14, q15⟩ := HS.out _ HB9.out
  refine hK.out _ _ (by and_intros <;> exact keepSet (by assumption) (by omega)) (fun hHeld => ?_)
  clear q0 q1 q2 q3 q4 q5 q6 q7 q8 q9 q10 q11 q12 q13 q14 q15 n4 f4 l4
  clear hK
  refine wpAnyH_done (by kernel_rfl) ?_ _
  exact NoPanic.normal (HQ.out _ _ _ _ _ _ _ _ _ _ _ _ _ _ ⟨_, HB9.out, rfl⟩)
 ·go_simp
  refine (HA.out _ HB0.out).mono ?_
  rintro e w6 ⟨rfl, hb⟩
  have HB6 := Lq (belowT HB0.out hb)
  clear hb
  refine hK.out _ _ (HS.out _ HB6.out) (fun hHeld => ?_)
  clear hK
  refine rd2 2 9 (fun K' hK => ?_) fun K' hK => ?_
  ·obtain ⟨n4, _, _⟩ := H4.out _ HB6.out
   go_simp
   refine hK.out _ _ hHeld (fun hHeld => ?_)
   clear n4
   clear hK
   refine rd1 9 fun K' hK => ?_
   go_simp
   refine (HP.out _ HB6.out).mono ?_
   rintro e w9 ⟨rfl, hb⟩
   have HB9 := Lq (belowT HB6.out hb)
   clear hb
   refine hK.out _ _ (HS.out _ HB9.out) (fun hHeld => ?_)
   clear hK
   refine tk 10 (iv (AR * PR)) ?_
   refine tk 11 (iv (ACC + AR * PR)) ?_
   refine tk 12 (.pointer (some ⟨g4, 0, none⟩)) ?_
   refine rd1 13 fun K' hK => ?_
   obtain ⟨n4, f4, l4⟩ := H4.out _ HB9.out
   go_simp
   obtain ⟨q0, q1, q2, q3, q4, q5, q6, q7, q8, q9, q10, q11, q12, q13, q14, q15⟩ := HS.out _ HB9.out
   refine hK.out _ _ (by and_intros <;> exact keepSet (by assumption) (by omega)) (fun hHeld => ?_)
   clear q0 q1 q2 q3 q4 q5 q6 q7 q8 q9 q10 q11 q12 q13 q14 q15 n4 f4 l4
   clear hK
   refine wpAnyH_done (by kernel_rfl) ?_ _
   exact NoPanic.normal (HQ.out _ _ _ _ _ _ _ _ _ _ _ _ _ _ ⟨_, HB9.out, rfl⟩)
  ·go_simp
   refine (HP.out _ HB6.out).mono ?_
   rintro e w9 ⟨rfl, hb⟩
   have HB9 := Lq (belowT HB6.out hb)
   clear hb
   refine hK.out _ _ (HS.out _ HB9.out) (fun hHeld => ?_)
   clear hK
   refine tk 10 (iv (AR * PR)) ?_
   refine rd1 2 fun K' hK => ?_
   obtain ⟨n4, _, _⟩ := H4.out _ HB9.out
   go_simp
   refine hK.out _ _ hHeld (fun hHeld => ?_)
   clear n4
   clear hK
   refine tk 11 (iv (ACC + AR * PR)) ?_
   refine tk 12 (.pointer (some ⟨g4, 0, none⟩)) ?_
   refine rd1 13 fun K' hK => ?_
   obtain ⟨n4, f4, l4⟩ := H4.out _ HB9.out
   go_simp
   obtain ⟨q0, q1, q2, q3, q4, q5, q6, q7, q8, q9, q10, q11, q12, q13, q14, q15⟩ := HS.out _ HB9.out
   refine hK.out _ _ (by and_intros <;> exact keepSet (by assumption) (by omega)) (fun hHeld => ?_)
   clear q0 q1 q2 q3 q4 q5 q6 q7 q8 q9 q10 q11 q12 q13 q14 q15 n4 f4 l4
   clear hK
   refine wpAnyH_done (by kernel_rfl) ?_ _
   exact NoPanic.normal (HQ.out _ _ _ _ _ _ _ _ _ _ _ _ _ _ ⟨_, HB9.out, rfl⟩)
theorem reg59_1_105 {Q : Exit → Act → World → Prop} {V : World} {g4 g6 gx gb : Nat} {name : ByteArray} {pos wlo whi keel llo lhi OV AR PR ACC : Int} {z0 z1 z2 z3 z7 z11 z12 z13 z14 z15 z16 z17 z18 z19 z20 z21 z22 z23 z24 z25 z26 z27 z28 z29 z30 z31 z32 z33 z34 z35 z36 z37 z38 z39 z40 z41 z42 z43 z44 z45 z46 z47 z48 z49 z50 z51 z52 z53 z54 z55 z56 : Value} (h46 : g4 < g6) (h6x : g6 < gx) (hw1 : IntKind.i64.wrap (AR * PR) = AR * PR) (hw2 : IntKind.i64.wrap (ACC + AR * PR) = ACC + AR * PR)
  (h4 : ∀ W, BW V W → W.cell? ⟨g4, 1, none⟩ = some (iv ACC) ∧ W.frozen? ⟨g4, 1, none⟩ = false ∧ g4 < W.heap.size)
  (hA : ∀ W, BW V W → Calls Tryz.prog 103 #[.agg #[.string name, iv pos, iv wlo, iv whi, iv keel, iv llo, iv lhi], .pointer (some ⟨gb, 0, none⟩)] W (Rt W (iv AR)))
  (hP : ∀ W, BW V W → Calls Tryz.prog 105 #[.agg #[.string name, iv pos, iv wlo, iv whi, iv keel, iv llo, iv lhi, iv OV]] W (Rt W (iv PR)))
  (hS : ∀ W, BW V W → W.cell? ⟨g6, 0, none⟩ = some (.func (.func 103) #[] #[.pointer (some ⟨gb, 0, none⟩)]) ∧ W.cell? ⟨gx, 0, none⟩ = some (.string name) ∧ W.cell? ⟨gx, 1, none⟩ = some (iv pos) ∧ W.cell? ⟨gx, 2, none⟩ = some (iv wlo) ∧ W.cell? ⟨gx, 3, none⟩ = some (iv whi) ∧ W.cell? ⟨gx, 4, none⟩ = some (iv keel) ∧ W.cell? ⟨gx, 5, none⟩ = some (iv llo) ∧ W.cell? ⟨gx, 6, none⟩ = some (iv lhi) ∧ W.cell? ⟨gx + 1, 0, none⟩ = some (.string name) ∧ W.cell? ⟨gx + 1, 1, none⟩ = some (iv pos) ∧ W.cell? ⟨gx + 1, 2, none⟩ = some (iv wlo) ∧ W.cell? ⟨gx + 1, 3, none⟩ = some (iv whi) ∧ W.cell? ⟨gx + 1, 4, none⟩ = some (iv keel) ∧ W.cell? ⟨gx + 1, 5, none⟩ = some (iv llo) ∧ W.cell? ⟨gx + 1, 6, none⟩ = some (iv lhi) ∧ W.cell? ⟨gx + 1, 7, none⟩ = some (iv OV))
  (hQ : ∀  u41 u42 u43 u44 u45 u46 u47 u48 u49 u50 u51 u52 u53 wx, (∃ w7, BW V w7 ∧ wx = w7.setCell ⟨g4, 1, none⟩ (iv (ACC + AR * PR))) → Q .normal ⟨#[z0, z1, z2, z3, .pointer (some ⟨g4, 0, none⟩), iv 1, .pointer (some ⟨g6, 0, none⟩), z7, .pointer (some ⟨gx, 0, none⟩), .pointer (some ⟨gx + 1, 0, none⟩), .func (.func 105) #[] #[], z11, z12, z13, z14, z15, z16, z17, z18, z19, z20, z21, z22, z23, z24, z25, z26, z27, z28, z29, z30, z31, z32, z33, z34, z35, z36, z37, z38, z39, z40, u41, u42, u43, u44, u45, u46, u47, u48, u49, u50, u51, u52, u53, z54, z55, z56], []⟩ wx) :
  (regionOf Tryz.f59 11).wp Tryz.prog Q ⟨#[z0, z1, z2, z3, .pointer (some ⟨g4, 0, none⟩), iv 1, .pointer (some ⟨g6, 0, none⟩), z7, .pointer (some ⟨gx, 0, none⟩), .pointer (some ⟨gx + 1, 0, none⟩), .func (.func 105) #[] #[], z11, z12, z13, z14, z15, z16, z17, z18, z19, z20, z21, z22, z23, z24, z25, z26, z27, z28, z29, z30, z31, z32, z33, z34, z35, z36, z37, z38, z39, z40, z41, z42, z43, z44, z45, z46, z47, z48, z49, z50, z51, z52, z53, z54, z55, z56], []⟩ V := by
 have H4 := Lq h4
 have HA := Lq hA
 have HP := Lq hP
 clear h4 hA hP
 have HS := Lq hS
 have HQ := Lq hQ
 clear hQ
 refine go0 (ops := ops59_11) (r := 11) (n := 14) hS fun V0 HB0 hHeld => ?_
 clear hS
 refine tk 0 (iv 1) ?_
 refine tk 3 (.pointer (some ⟨g6, 0, none⟩)) ?_
 refine tk 5 (.agg #[.string name, iv pos, iv wlo, iv whi, iv keel, iv llo, iv lhi]) ?_
 refine tk 7 (.func (.func 105) #[] #[]) ?_
 refine tk 8 (.agg #[.string name, iv pos, iv wlo, iv whi, iv keel, iv llo, iv lhi, iv OV]) ?_
 refine tk 1 (.pointer (some ⟨g4, 1, none⟩)) ?_
 refine tk 4 (.func (.func 103) #[] #[.pointer (some ⟨gb, 0, none⟩)]) ?_
 refine rd2 2 6 (fun K' hK => ?_) fun K' hK => ?_
 ·obtain ⟨n4, _, _⟩ := H4.out _ HB0.out
  go_simp
  refine hK.out _ _ hHeld (fun hHeld => ?_)
  clear n4
  clear hK
  refine rd1 6 fun K' hK => ?_
  go_simp
  refine (HA.out _ HB0.out).mono ?_
  rintro e w6 ⟨rfl, hb⟩
  have HB6 := Lq (belowT HB0.out hb)
  clear hb
  refine hK.out _ _ (HS.out _ HB6.out) (fun hHeld => ?_)
  clear hK
  refine rd1 9 fun K' hK => ?_
  go_simp
  refine (HP.out _ HB6.out).mono ?_
  rintro e w9 ⟨rfl, hb⟩
  have HB9 := Lq (belowT HB6.out hb)
  clear hb
  refine hK.out _ _ (HS.out _ HB9.out) (fun hHeld => ?_)
  clear hK
  refine tk 10 (iv (AR * PR)) ?_
  refine tk 11 (iv (ACC + AR * PR)) ?_
  refine tk 12 (.pointer (some ⟨g4, 1, none⟩)) ?_
  refine rd1 13 fun K' hK => ?_
  obtain ⟨n4, f4, l4⟩ := H4.out _ HB9.out
  go_simp
  obtain ⟨q0, q1, q2, q3, q4, q5, q6, q7, q8, q9, q10, q11, q12, q13, q14, q15⟩ := HS.out _ HB9.out
  refine hK.out _ _ (by and_intros <;> exact keepSet (by assumption) (by omega)) (fun hHeld => ?_)
  clear q0 q1 q2 q3 q4 q5 q6 q7 q8 q9 q10 q11 q12 q13 q14 q15 n4 f4 l4
  clear hK
  refine wpAnyH_done (by kernel_rfl) ?_ _
  exact NoPanic.normal (HQ.out _ _ _ _ _ _ _ _ _ _ _ _ _ _ ⟨_, HB9.out, rfl⟩)
 ·go_simp
  refine (HA.out _ HB0.out).mono ?_
  rintro e w6 ⟨rfl, hb⟩
  have HB6 := Lq (belowT HB0.out hb)
  clear hb
  refine hK.out _ _ (HS.out _ HB6.out) (fun hHeld => ?_)
  clear hK
  refine rd2 2 9 (fun K' hK => ?_) fun K' hK => ?_
  ·obtain ⟨n4, _, _⟩ := H4.out _ HB6.out
   go_simp
   refine hK.out _ _ hHeld (fun hHeld => ?_)
   clear n4
   clear hK
   refine rd1 9 fun K' hK => ?_
   go_simp
   refine (HP.out _ HB6.out).mono ?_
   rintro e w9 ⟨rfl, hb⟩
   have HB9 := Lq (belowT HB6.out hb)
   clear hb
   refine hK.out _ _ (HS.out _ HB9.out) (fun hHeld => ?_)
   clear hK
   refine tk 10 (iv (AR * PR)) ?_
   refine tk 11 (iv (ACC + AR * PR)) ?_
   refine tk 12 (.pointer (some ⟨g4, 1, none⟩)) ?_
   refine rd1 13 fun K' hK => ?_
   obtain ⟨n4, f4, l4⟩ := H4.out _ HB9.out
   go_simp
   obtain ⟨q0, q1, q2, q3, q4, q5, q6, q7, q8, q9, q10, q11, q12, q13, q14, q15⟩ := HS.out _ HB9.out
   refine hK.out _ _ (by and_intros <;> exact keepSet (by assumption) (by omega)) (fun hHeld => ?_)
   clear q0 q1 q2 q3 q4 q5 q6 q7 q8 q9 q10 q11 q12 q13 q14 q15 n4 f4 l4
   clear hK
   refine wpAnyH_done (by kernel_rfl) ?_ _
   exact NoPanic.normal (HQ.out _ _ _ _ _ _ _ _ _ _ _ _ _ _ ⟨_, HB9.out, rfl⟩)
  ·go_simp
   refine (HP.out _ HB6.out).mono ?_
   rintro e w9 ⟨rfl, hb⟩
   have HB9 := Lq (belowT HB6.out hb)
   clear hb
   refine hK.out _ _ (HS.out _ HB9.out) (fun hHeld => ?_)
   clear hK
   refine tk 10 (iv (AR * PR)) ?_
   refine rd1 2 fun K' hK => ?_
   obtain ⟨n4, _, _⟩ := H4.out _ HB9.out
   go_simp
   refine hK.out _ _ hHeld (fun hHeld => ?_)
   clear n4
   clear hK
   refine tk 11 (iv (ACC + AR * PR)) ?_
   refine tk 12 (.pointer (some ⟨g4, 1, none⟩)) ?_
   refine rd1 13 fun K' hK => ?_
   obtain ⟨n4, f4, l4⟩ := H4.out _ HB9.out
   go_simp
   obtain ⟨q0, q1, q2, q3, q4, q5, q6, q7, q8, q9, q10, q11, q12, q13, q14, q15⟩ := HS.out _ HB9.out
   refine hK.out _ _ (by and_intros <;> exact keepSet (by assumption) (by omega)) (fun hHeld => ?_)
   clear q0 q1 q2 q3 q4 q5 q6 q7 q8 q9 q10 q11 q12 q13 q14 q15 n4 f4 l4
   clear hK
   refine wpAnyH_done (by kernel_rfl) ?_ _
   exact NoPanic.normal (HQ.out _ _ _ _ _ _ _ _ _ _ _ _ _ _ ⟨_, HB9.out, rfl⟩)
theorem reg59_1_106 {Q : Exit → Act → World → Prop} {V : World} {g4 g6 gx gb : Nat} {name : ByteArray} {pos wlo whi keel llo lhi OV AR PR ACC : Int} {z0 z1 z2 z3 z7 z11 z12 z13 z14 z15 z16 z17 z18 z19 z20 z21 z22 z23 z24 z25 z26 z27 z28 z29 z30 z31 z32 z33 z34 z35 z36 z37 z38 z39 z40 z41 z42 z43 z44 z45 z46 z47 z48 z49 z50 z51 z52 z53 z54 z55 z56 : Value} (h46 : g4 < g6) (h6x : g6 < gx) (hw1 : IntKind.i64.wrap (AR * PR) = AR * PR) (hw2 : IntKind.i64.wrap (ACC + AR * PR) = ACC + AR * PR)
  (h4 : ∀ W, BW V W → W.cell? ⟨g4, 1, none⟩ = some (iv ACC) ∧ W.frozen? ⟨g4, 1, none⟩ = false ∧ g4 < W.heap.size)
  (hA : ∀ W, BW V W → Calls Tryz.prog 103 #[.agg #[.string name, iv pos, iv wlo, iv whi, iv keel, iv llo, iv lhi], .pointer (some ⟨gb, 0, none⟩)] W (Rt W (iv AR)))
  (hP : ∀ W, BW V W → Calls Tryz.prog 106 #[.agg #[.string name, iv pos, iv wlo, iv whi, iv keel, iv llo, iv lhi, iv OV]] W (Rt W (iv PR)))
  (hS : ∀ W, BW V W → W.cell? ⟨g6, 0, none⟩ = some (.func (.func 103) #[] #[.pointer (some ⟨gb, 0, none⟩)]) ∧ W.cell? ⟨gx, 0, none⟩ = some (.string name) ∧ W.cell? ⟨gx, 1, none⟩ = some (iv pos) ∧ W.cell? ⟨gx, 2, none⟩ = some (iv wlo) ∧ W.cell? ⟨gx, 3, none⟩ = some (iv whi) ∧ W.cell? ⟨gx, 4, none⟩ = some (iv keel) ∧ W.cell? ⟨gx, 5, none⟩ = some (iv llo) ∧ W.cell? ⟨gx, 6, none⟩ = some (iv lhi) ∧ W.cell? ⟨gx + 1, 0, none⟩ = some (.string name) ∧ W.cell? ⟨gx + 1, 1, none⟩ = some (iv pos) ∧ W.cell? ⟨gx + 1, 2, none⟩ = some (iv wlo) ∧ W.cell? ⟨gx + 1, 3, none⟩ = some (iv whi) ∧ W.cell? ⟨gx + 1, 4, none⟩ = some (iv keel) ∧ W.cell? ⟨gx + 1, 5, none⟩ = some (iv llo) ∧ W.cell? ⟨gx + 1, 6, none⟩ = some (iv lhi) ∧ W.cell? ⟨gx + 1, 7, none⟩ = some (iv OV))
  (hQ : ∀  u41 u42 u43 u44 u45 u46 u47 u48 u49 u50 u51 u52 u53 wx, (∃ w7, BW V w7 ∧ wx = w7.setCell ⟨g4, 1, none⟩ (iv (ACC + AR * PR))) → Q .normal ⟨#[z0, z1, z2, z3, .pointer (some ⟨g4, 0, none⟩), iv 1, .pointer (some ⟨g6, 0, none⟩), z7, .pointer (some ⟨gx, 0, none⟩), .pointer (some ⟨gx + 1, 0, none⟩), .func (.func 106) #[] #[], z11, z12, z13, z14, z15, z16, z17, z18, z19, z20, z21, z22, z23, z24, z25, z26, z27, z28, z29, z30, z31, z32, z33, z34, z35, z36, z37, z38, z39, z40, u41, u42, u43, u44, u45, u46, u47, u48, u49, u50, u51, u52, u53, z54, z55, z56], []⟩ wx) :
  (regionOf Tryz.f59 11).wp Tryz.prog Q ⟨#[z0, z1, z2, z3, .pointer (some ⟨g4, 0, none⟩), iv 1, .pointer (some ⟨g6, 0, none⟩), z7, .pointer (some ⟨gx, 0, none⟩), .pointer (some ⟨gx + 1, 0, none⟩), .func (.func 106) #[] #[], z11, z12, z13, z14, z15, z16, z17, z18, z19, z20, z21, z22, z23, z24, z25, z26, z27, z28, z29, z30, z31, z32, z33, z34, z35, z36, z37, z38, z39, z40, z41, z42, z43, z44, z45, z46, z47, z48, z49, z50, z51, z52, z53, z54, z55, z56], []⟩ V := by
 have H4 := Lq h4
 have HA := Lq hA
 have HP := Lq hP
 clear h4 hA hP
 have HS := Lq hS
 have HQ := Lq hQ
 clear hQ
 refine go0 (ops := ops59_11) (r := 11) (n := 14) hS fun V0 HB0 hHeld => ?_
 clear hS
 refine tk 0 (iv 1) ?_
 refine tk 3 (.pointer (some ⟨g6, 0, none⟩)) ?_
 refine tk 5 (.agg #[.string name, iv pos, iv wlo, iv whi, iv keel, iv llo, iv lhi]) ?_
 refine tk 7 (.func (.func 106) #[] #[]) ?_
 refine tk 8 (.agg #[.string name, iv pos, iv wlo, iv whi, iv keel, iv llo, iv lhi, iv OV]) ?_
 refine tk 1 (.pointer (some ⟨g4, 1, none⟩)) ?_
 refine tk 4 (.func (.func 103) #[] #[.pointer (some ⟨gb, 0, none⟩)]) ?_
 refine rd2 2 6 (fun K' hK => ?_) fun K' hK => ?_
 ·obtain ⟨n4, _, _⟩ := H4.out _ HB0.out
  go_simp
  refine hK.out _ _ hHeld (fun hHeld => ?_)
  clear n4
  clear hK
  refine rd1 6 fun K' hK => ?_
  go_simp
  refine (HA.out _ HB0.out).mono ?_
  rintro e w6 ⟨rfl, hb⟩
  have HB6 := Lq (belowT HB0.out hb)
  clear hb
  refine hK.out _ _ (HS.out _ HB6.out) (fun hHeld => ?_)
  clear hK
  refine rd1 9 fun K' hK => ?_
  go_simp
  refine (HP.out _ HB6.out).mono ?_
  rintro e w9 ⟨rfl, hb⟩
  have HB9 := Lq (belowT HB6.out hb)
  clear hb
  refine hK.out _ _ (HS.out _ HB9.out) (fun hHeld => ?_)
  clear hK
  refine tk 10 (iv (AR * PR)) ?_
  refine tk 11 (iv (ACC + AR * PR)) ?_
  refine tk 12 (.pointer (some ⟨g4, 1, none⟩)) ?_
  refine rd1 13 fun K' hK => ?_
  obtain ⟨n4, f4, l4⟩ := H4.out _ HB9.out
  go_simp
  obtain ⟨q0, q1, q2, q3, q4, q5, q6, q7, q8, q9, q10, q11, q12, q13, q14, q15⟩ := HS.out _ HB9.out
  refine hK.out _ _ (by and_intros <;> exact keepSet (by assumption) (by omega)) (fun hHeld => ?_)
  clear q0 q1 q2 q3 q4 q5 q6 q7 q8 q9 q10 q11 q12 q13 q14 q15 n4 f4 l4
  clear hK
  refine wpAnyH_done (by kernel_rfl) ?_ _
  exact NoPanic.normal (HQ.out _ _ _ _ _ _ _ _ _ _ _ _ _ _ ⟨_, HB9.out, rfl⟩)
 ·go_simp
  refine (HA.out _ HB0.out).mono ?_
  rintro e w6 ⟨rfl, hb⟩
  have HB6 := Lq (belowT HB0.out hb)
  clear hb
  refine hK.out _ _ (HS.out _ HB6.out) (fun hHeld => ?_)
  clear hK
  refine rd2 2 9 (fun K' hK => ?_) fun K' hK => ?_
  ·obtain ⟨n4, _, _⟩ := H4.out _ HB6.out
   go_simp
   refine hK.out _ _ hHeld (fun hHeld => ?_)
   clear n4
   clear hK
   refine rd1 9 fun K' hK => ?_
   go_simp
   refine (HP.out _ HB6.out).mono ?_
   rintro e w9 ⟨rfl, hb⟩
   have HB9 := Lq (belowT HB6.out hb)
   clear hb
   refine hK.out _ _ (HS.out _ HB9.out) (fun hHeld => ?_)
   clear hK
   refine tk 10 (iv (AR * PR)) ?_
   refine tk 11 (iv (ACC + AR * PR)) ?_
   refine tk 12 (.pointer (some ⟨g4, 1, none⟩)) ?_
   refine rd1 13 fun K' hK => ?_
   obtain ⟨n4, f4, l4⟩ := H4.out _ HB9.out
   go_simp
   obtain ⟨q0, q1, q2, q3, q4, q5, q6, q7, q8, q9, q10, q11, q12, q13, q14, q15⟩ := HS.out _ HB9.out
   refine hK.out _ _ (by and_intros <;> exact keepSet (by assumption) (by omega)) (fun hHeld => ?_)
   clear q0 q1 q2 q3 q4 q5 q6 q7 q8 q9 q10 q11 q12 q13 q14 q15 n4 f4 l4
   clear hK
   refine wpAnyH_done (by kernel_rfl) ?_ _
   exact NoPanic.normal (HQ.out _ _ _ _ _ _ _ _ _ _ _ _ _ _ ⟨_, HB9.out, rfl⟩)
  ·go_simp
   refine (HP.out _ HB6.out).mono ?_
   rintro e w9 ⟨rfl, hb⟩
   have HB9 := Lq (belowT HB6.out hb)
   clear hb
   refine hK.out _ _ (HS.out _ HB9.out) (fun hHeld => ?_)
   clear hK
   refine tk 10 (iv (AR * PR)) ?_
   refine rd1 2 fun K' hK => ?_
   obtain ⟨n4, _, _⟩ := H4.out _ HB9.out
   go_simp
   refine hK.out _ _ hHeld (fun hHeld => ?_)
   clear n4
   clear hK
   refine tk 11 (iv (ACC + AR * PR)) ?_
   refine tk 12 (.pointer (some ⟨g4, 1, none⟩)) ?_
   refine rd1 13 fun K' hK => ?_
   obtain ⟨n4, f4, l4⟩ := H4.out _ HB9.out
   go_simp
   obtain ⟨q0, q1, q2, q3, q4, q5, q6, q7, q8, q9, q10, q11, q12, q13, q14, q15⟩ := HS.out _ HB9.out
   refine hK.out _ _ (by and_intros <;> exact keepSet (by assumption) (by omega)) (fun hHeld => ?_)
   clear q0 q1 q2 q3 q4 q5 q6 q7 q8 q9 q10 q11 q12 q13 q14 q15 n4 f4 l4
   clear hK
   refine wpAnyH_done (by kernel_rfl) ?_ _
   exact NoPanic.normal (HQ.out _ _ _ _ _ _ _ _ _ _ _ _ _ _ ⟨_, HB9.out, rfl⟩)
theorem reg59_2_105 {Q : Exit → Act → World → Prop} {V : World} {g4 g6 gx gb : Nat} {name : ByteArray} {pos wlo whi keel llo lhi OV AR PR ACC : Int} {z0 z1 z2 z3 z7 z11 z12 z13 z14 z15 z16 z17 z18 z19 z20 z21 z22 z23 z24 z25 z26 z27 z28 z29 z30 z31 z32 z33 z34 z35 z36 z37 z38 z39 z40 z41 z42 z43 z44 z45 z46 z47 z48 z49 z50 z51 z52 z53 z54 z55 z56 : Value} (h46 : g4 < g6) (h6x : g6 < gx) (hw1 : IntKind.i64.wrap (AR * PR) = AR * PR) (hw2 : IntKind.i64.wrap (ACC + AR * PR) = ACC + AR * PR)
  (h4 : ∀ W, BW V W → W.cell? ⟨g4, 2, none⟩ = some (iv ACC) ∧ W.frozen? ⟨g4, 2, none⟩ = false ∧ g4 < W.heap.size)
  (hA : ∀ W, BW V W → Calls Tryz.prog 104 #[.agg #[.string name, iv pos, iv wlo, iv whi, iv keel, iv llo, iv lhi], .pointer (some ⟨gb, 0, none⟩)] W (Rt W (iv AR)))
  (hP : ∀ W, BW V W → Calls Tryz.prog 105 #[.agg #[.string name, iv pos, iv wlo, iv whi, iv keel, iv llo, iv lhi, iv OV]] W (Rt W (iv PR)))
  (hS : ∀ W, BW V W → W.cell? ⟨g6, 0, none⟩ = some (.func (.func 104) #[] #[.pointer (some ⟨gb, 0, none⟩)]) ∧ W.cell? ⟨gx, 0, none⟩ = some (.string name) ∧ W.cell? ⟨gx, 1, none⟩ = some (iv pos) ∧ W.cell? ⟨gx, 2, none⟩ = some (iv wlo) ∧ W.cell? ⟨gx, 3, none⟩ = some (iv whi) ∧ W.cell? ⟨gx, 4, none⟩ = some (iv keel) ∧ W.cell? ⟨gx, 5, none⟩ = some (iv llo) ∧ W.cell? ⟨gx, 6, none⟩ = some (iv lhi) ∧ W.cell? ⟨gx + 1, 0, none⟩ = some (.string name) ∧ W.cell? ⟨gx + 1, 1, none⟩ = some (iv pos) ∧ W.cell? ⟨gx + 1, 2, none⟩ = some (iv wlo) ∧ W.cell? ⟨gx + 1, 3, none⟩ = some (iv whi) ∧ W.cell? ⟨gx + 1, 4, none⟩ = some (iv keel) ∧ W.cell? ⟨gx + 1, 5, none⟩ = some (iv llo) ∧ W.cell? ⟨gx + 1, 6, none⟩ = some (iv lhi) ∧ W.cell? ⟨gx + 1, 7, none⟩ = some (iv OV))
  (hQ : ∀  u41 u42 u43 u44 u45 u46 u47 u48 u49 u50 u51 u52 u53 wx, (∃ w7, BW V w7 ∧ wx = w7.setCell ⟨g4, 2, none⟩ (iv (ACC + AR * PR))) → Q .normal ⟨#[z0, z1, z2, z3, .pointer (some ⟨g4, 0, none⟩), iv 2, .pointer (some ⟨g6, 0, none⟩), z7, .pointer (some ⟨gx, 0, none⟩), .pointer (some ⟨gx + 1, 0, none⟩), .func (.func 105) #[] #[], z11, z12, z13, z14, z15, z16, z17, z18, z19, z20, z21, z22, z23, z24, z25, z26, z27, z28, z29, z30, z31, z32, z33, z34, z35, z36, z37, z38, z39, z40, u41, u42, u43, u44, u45, u46, u47, u48, u49, u50, u51, u52, u53, z54, z55, z56], []⟩ wx) :
  (regionOf Tryz.f59 11).wp Tryz.prog Q ⟨#[z0, z1, z2, z3, .pointer (some ⟨g4, 0, none⟩), iv 2, .pointer (some ⟨g6, 0, none⟩), z7, .pointer (some ⟨gx, 0, none⟩), .pointer (some ⟨gx + 1, 0, none⟩), .func (.func 105) #[] #[], z11, z12, z13, z14, z15, z16, z17, z18, z19, z20, z21, z22, z23, z24, z25, z26, z27, z28, z29, z30, z31, z32, z33, z34, z35, z36, z37, z38, z39, z40, z41, z42, z43, z44, z45, z46, z47, z48, z49, z50, z51, z52, z53, z54, z55, z56], []⟩ V := by
 have H4 := Lq h4
 have HA := Lq hA
 have HP := Lq hP
 clear h4 hA hP
 have HS := Lq hS
 have HQ := Lq hQ
 clear hQ
 refine go0 (ops := ops59_11) (r := 11) (n := 14) hS fun V0 HB0 hHeld => ?_
 clear hS
 refine tk 0 (iv 2) ?_
 refine tk 3 (.pointer (some ⟨g6, 0, none⟩)) ?_
 refine tk 5 (.agg #[.string name, iv pos, iv wlo, iv whi, iv keel, iv llo, iv lhi]) ?_
 refine tk 7 (.func (.func 105) #[] #[]) ?_
 refine tk 8 (.agg #[.string name, iv pos, iv wlo, iv whi, iv keel, iv llo, iv lhi, iv OV]) ?_
 refine tk 1 (.pointer (some ⟨g4, 2, none⟩)) ?_
 refine tk 4 (.func (.func 104) #[] #[.pointer (some ⟨gb, 0, none⟩)]) ?_
 refine rd2 2 6 (fun K' hK => ?_) fun K' hK => ?_
 ·obtain ⟨n4, _, _⟩ := H4.out _ HB0.out
  go_simp
  refine hK.out _ _ hHeld (fun hHeld => ?_)
  clear n4
  clear hK
  refine rd1 6 fun K' hK => ?_
  go_simp
  refine (HA.out _ HB0.out).mono ?_
  rintro e w6 ⟨rfl, hb⟩
  have HB6 := Lq (belowT HB0.out hb)
  clear hb
  refine hK.out _ _ (HS.out _ HB6.out) (fun hHeld => ?_)
  clear hK
  refine rd1 9 fun K' hK => ?_
  go_simp
  refine (HP.out _ HB6.out).mono ?_
  rintro e w9 ⟨rfl, hb⟩
  have HB9 := Lq (belowT HB6.out hb)
  clear hb
  refine hK.out _ _ (HS.out _ HB9.out) (fun hHeld => ?_)
  clear hK
  refine tk 10 (iv (AR * PR)) ?_
  refine tk 11 (iv (ACC + AR * PR)) ?_
  refine tk 12 (.pointer (some ⟨g4, 2, none⟩)) ?_
  refine rd1 13 fun K' hK => ?_
  obtain ⟨n4, f4, l4⟩ := H4.out _ HB9.out
  go_simp
  obtain ⟨q0, q1, q2, q3, q4, q5, q6, q7, q8, q9, q10, q11, q12, q13, q14, q15⟩ := HS.out _ HB9.out
  refine hK.out _ _ (by and_intros <;> exact keepSet (by assumption) (by omega)) (fun hHeld => ?_)
  clear q0 q1 q2 q3 q4 q5 q6 q7 q8 q9 q10 q11 q12 q13 q14 q15 n4 f4 l4
  clear hK
  refine wpAnyH_done (by kernel_rfl) ?_ _
  exact NoPanic.normal (HQ.out _ _ _ _ _ _ _ _ _ _ _ _ _ _ ⟨_, HB9.out, rfl⟩)
 ·go_simp
  refine (HA.out _ HB0.out).mono ?_
  rintro e w6 ⟨rfl, hb⟩
  have HB6 := Lq (belowT HB0.out hb)
  clear hb
  refine hK.out _ _ (HS.out _ HB6.out) (fun hHeld => ?_)
  clear hK
  refine rd2 2 9 (fun K' hK => ?_) fun K' hK => ?_
  ·obtain ⟨n4, _, _⟩ := H4.out _ HB6.out
   go_simp
   refine hK.out _ _ hHeld (fun hHeld => ?_)
   clear n4
   clear hK
   refine rd1 9 fun K' hK => ?_
   go_simp
   refine (HP.out _ HB6.out).mono ?_
   rintro e w9 ⟨rfl, hb⟩
   have HB9 := Lq (belowT HB6.out hb)
   clear hb
   refine hK.out _ _ (HS.out _ HB9.out) (fun hHeld => ?_)
   clear hK
   refine tk 10 (iv (AR * PR)) ?_
   refine tk 11 (iv (ACC + AR * PR)) ?_
   refine tk 12 (.pointer (some ⟨g4, 2, none⟩)) ?_
   refine rd1 13 fun K' hK => ?_
   obtain ⟨n4, f4, l4⟩ := H4.out _ HB9.out
   go_simp
   obtain ⟨q0, q1, q2, q3, q4, q5, q6, q7, q8, q9, q10, q11, q12, q13, q14, q15⟩ := HS.out _ HB9.out
   refine hK.out _ _ (by and_intros <;> exact keepSet (by assumption) (by omega)) (fun hHeld => ?_)
   clear q0 q1 q2 q3 q4 q5 q6 q7 q8 q9 q10 q11 q12 q13 q14 q15 n4 f4 l4
   clear hK
   refine wpAnyH_done (by kernel_rfl) ?_ _
   exact NoPanic.normal (HQ.out _ _ _ _ _ _ _ _ _ _ _ _ _ _ ⟨_, HB9.out, rfl⟩)
  ·go_simp
   refine (HP.out _ HB6.out).mono ?_
   rintro e w9 ⟨rfl, hb⟩
   have HB9 := Lq (belowT HB6.out hb)
   clear hb
   refine hK.out _ _ (HS.out _ HB9.out) (fun hHeld => ?_)
   clear hK
   refine tk 10 (iv (AR * PR)) ?_
   refine rd1 2 fun K' hK => ?_
   obtain ⟨n4, _, _⟩ := H4.out _ HB9.out
   go_simp
   refine hK.out _ _ hHeld (fun hHeld => ?_)
   clear n4
   clear hK
   refine tk 11 (iv (ACC + AR * PR)) ?_
   refine tk 12 (.pointer (some ⟨g4, 2, none⟩)) ?_
   refine rd1 13 fun K' hK => ?_
   obtain ⟨n4, f4, l4⟩ := H4.out _ HB9.out
   go_simp
   obtain ⟨q0, q1, q2, q3, q4, q5, q6, q7, q8, q9, q10, q11, q12, q13, q14, q15⟩ := HS.out _ HB9.out
   refine hK.out _ _ (by and_intros <;> exact keepSet (by assumption) (by omega)) (fun hHeld => ?_)
   clear q0 q1 q2 q3 q4 q5 q6 q7 q8 q9 q10 q11 q12 q13 q14 q15 n4 f4 l4
   clear hK
   refine wpAnyH_done (by kernel_rfl) ?_ _
   exact NoPanic.normal (HQ.out _ _ _ _ _ _ _ _ _ _ _ _ _ _ ⟨_, HB9.out, rfl⟩)
theorem reg59_2_106 {Q : Exit → Act → World → Prop} {V : World} {g4 g6 gx gb : Nat} {name : ByteArray} {pos wlo whi keel llo lhi OV AR PR ACC : Int} {z0 z1 z2 z3 z7 z11 z12 z13 z14 z15 z16 z17 z18 z19 z20 z21 z22 z23 z24 z25 z26 z27 z28 z29 z30 z31 z32 z33 z34 z35 z36 z37 z38 z39 z40 z41 z42 z43 z44 z45 z46 z47 z48 z49 z50 z51 z52 z53 z54 z55 z56 : Value} (h46 : g4 < g6) (h6x : g6 < gx) (hw1 : IntKind.i64.wrap (AR * PR) = AR * PR) (hw2 : IntKind.i64.wrap (ACC + AR * PR) = ACC + AR * PR)
  (h4 : ∀ W, BW V W → W.cell? ⟨g4, 2, none⟩ = some (iv ACC) ∧ W.frozen? ⟨g4, 2, none⟩ = false ∧ g4 < W.heap.size)
  (hA : ∀ W, BW V W → Calls Tryz.prog 104 #[.agg #[.string name, iv pos, iv wlo, iv whi, iv keel, iv llo, iv lhi], .pointer (some ⟨gb, 0, none⟩)] W (Rt W (iv AR)))
  (hP : ∀ W, BW V W → Calls Tryz.prog 106 #[.agg #[.string name, iv pos, iv wlo, iv whi, iv keel, iv llo, iv lhi, iv OV]] W (Rt W (iv PR)))
  (hS : ∀ W, BW V W → W.cell? ⟨g6, 0, none⟩ = some (.func (.func 104) #[] #[.pointer (some ⟨gb, 0, none⟩)]) ∧ W.cell? ⟨gx, 0, none⟩ = some (.string name) ∧ W.cell? ⟨gx, 1, none⟩ = some (iv pos) ∧ W.cell? ⟨gx, 2, none⟩ = some (iv wlo) ∧ W.cell? ⟨gx, 3, none⟩ = some (iv whi) ∧ W.cell? ⟨gx, 4, none⟩ = some (iv keel) ∧ W.cell? ⟨gx, 5, none⟩ = some (iv llo) ∧ W.cell? ⟨gx, 6, none⟩ = some (iv lhi) ∧ W.cell? ⟨gx + 1, 0, none⟩ = some (.string name) ∧ W.cell? ⟨gx + 1, 1, none⟩ = some (iv pos) ∧ W.cell? ⟨gx + 1, 2, none⟩ = some (iv wlo) ∧ W.cell? ⟨gx + 1, 3, none⟩ = some (iv whi) ∧ W.cell? ⟨gx + 1, 4, none⟩ = some (iv keel) ∧ W.cell? ⟨gx + 1, 5, none⟩ = some (iv llo) ∧ W.cell? ⟨gx + 1, 6, none⟩ = some (iv lhi) ∧ W.cell? ⟨gx + 1, 7, none⟩ = some (iv OV))
  (hQ : ∀  u41 u42 u43 u44 u45 u46 u47 u48 u49 u50 u51 u52 u53 wx, (∃ w7, BW V w7 ∧ wx = w7.setCell ⟨g4, 2, none⟩ (iv (ACC + AR * PR))) → Q .normal ⟨#[z0, z1, z2, z3, .pointer (some ⟨g4, 0, none⟩), iv 2, .pointer (some ⟨g6, 0, none⟩), z7, .pointer (some ⟨gx, 0, none⟩), .pointer (some ⟨gx + 1, 0, none⟩), .func (.func 106) #[] #[], z11, z12, z13, z14, z15, z16, z17, z18, z19, z20, z21, z22, z23, z24, z25, z26, z27, z28, z29, z30, z31, z32, z33, z34, z35, z36, z37, z38, z39, z40, u41, u42, u43, u44, u45, u46, u47, u48, u49, u50, u51, u52, u53, z54, z55, z56], []⟩ wx) :
  (regionOf Tryz.f59 11).wp Tryz.prog Q ⟨#[z0, z1, z2, z3, .pointer (some ⟨g4, 0, none⟩), iv 2, .pointer (some ⟨g6, 0, none⟩), z7, .pointer (some ⟨gx, 0, none⟩), .pointer (some ⟨gx + 1, 0, none⟩), .func (.func 106) #[] #[], z11, z12, z13, z14, z15, z16, z17, z18, z19, z20, z21, z22, z23, z24, z25, z26, z27, z28, z29, z30, z31, z32, z33, z34, z35, z36, z37, z38, z39, z40, z41, z42, z43, z44, z45, z46, z47, z48, z49, z50, z51, z52, z53, z54, z55, z56], []⟩ V := by
 have H4 := Lq h4
 have HA := Lq hA
 have HP := Lq hP
 clear h4 hA hP
 have HS := Lq hS
 have HQ := Lq hQ
 clear hQ
 refine go0 (ops := ops59_11) (r := 11) (n := 14) hS fun V0 HB0 hHeld => ?_
 clear hS
 refine tk 0 (iv 2) ?_
 refine tk 3 (.pointer (some ⟨g6, 0, none⟩)) ?_
 refine tk 5 (.agg #[.string name, iv pos, iv wlo, iv whi, iv keel, iv llo, iv lhi]) ?_
 refine tk 7 (.func (.func 106) #[] #[]) ?_
 refine tk 8 (.agg #[.string name, iv pos, iv wlo, iv whi, iv keel, iv llo, iv lhi, iv OV]) ?_
 refine tk 1 (.pointer (some ⟨g4, 2, none⟩)) ?_
 refine tk 4 (.func (.func 104) #[] #[.pointer (some ⟨gb, 0, none⟩)]) ?_
 refine rd2 2 6 (fun K' hK => ?_) fun K' hK => ?_
 ·obtain ⟨n4, _, _⟩ := H4.out _ HB0.out
  go_simp
  refine hK.out _ _ hHeld (fun hHeld => ?_)
  clear n4
  clear hK
  refine rd1 6 fun K' hK => ?_
  go_simp
  refine (HA.out _ HB0.out).mono ?_
  rintro e w6 ⟨rfl, hb⟩
  have HB6 := Lq (belowT HB0.out hb)
  clear hb
  refine hK.out _ _ (HS.out _ HB6.out) (fun hHeld => ?_)
  clear hK
  refine rd1 9 fun K' hK => ?_
  go_simp
  refine (HP.out _ HB6.out).mono ?_
  rintro e w9 ⟨rfl, hb⟩
  have HB9 := Lq (belowT HB6.out hb)
  clear hb
  refine hK.out _ _ (HS.out _ HB9.out) (fun hHeld => ?_)
  clear hK
  refine tk 10 (iv (AR * PR)) ?_
  refine tk 11 (iv (ACC + AR * PR)) ?_
  refine tk 12 (.pointer (some ⟨g4, 2, none⟩)) ?_
  refine rd1 13 fun K' hK => ?_
  obtain ⟨n4, f4, l4⟩ := H4.out _ HB9.out
  go_simp
  obtain ⟨q0, q1, q2, q3, q4, q5, q6, q7, q8, q9, q10, q11, q12, q13, q14, q15⟩ := HS.out _ HB9.out
  refine hK.out _ _ (by and_intros <;> exact keepSet (by assumption) (by omega)) (fun hHeld => ?_)
  clear q0 q1 q2 q3 q4 q5 q6 q7 q8 q9 q10 q11 q12 q13 q14 q15 n4 f4 l4
  clear hK
  refine wpAnyH_done (by kernel_rfl) ?_ _
  exact NoPanic.normal (HQ.out _ _ _ _ _ _ _ _ _ _ _ _ _ _ ⟨_, HB9.out, rfl⟩)
 ·go_simp
  refine (HA.out _ HB0.out).mono ?_
  rintro e w6 ⟨rfl, hb⟩
  have HB6 := Lq (belowT HB0.out hb)
  clear hb
  refine hK.out _ _ (HS.out _ HB6.out) (fun hHeld => ?_)
  clear hK
  refine rd2 2 9 (fun K' hK => ?_) fun K' hK => ?_
  ·obtain ⟨n4, _, _⟩ := H4.out _ HB6.out
   go_simp
   refine hK.out _ _ hHeld (fun hHeld => ?_)
   clear n4
   clear hK
   refine rd1 9 fun K' hK => ?_
   go_simp
   refine (HP.out _ HB6.out).mono ?_
   rintro e w9 ⟨rfl, hb⟩
   have HB9 := Lq (belowT HB6.out hb)
   clear hb
   refine hK.out _ _ (HS.out _ HB9.out) (fun hHeld => ?_)
   clear hK
   refine tk 10 (iv (AR * PR)) ?_
   refine tk 11 (iv (ACC + AR * PR)) ?_
   refine tk 12 (.pointer (some ⟨g4, 2, none⟩)) ?_
   refine rd1 13 fun K' hK => ?_
   obtain ⟨n4, f4, l4⟩ := H4.out _ HB9.out
   go_simp
   obtain ⟨q0, q1, q2, q3, q4, q5, q6, q7, q8, q9, q10, q11, q12, q13, q14, q15⟩ := HS.out _ HB9.out
   refine hK.out _ _ (by and_intros <;> exact keepSet (by assumption) (by omega)) (fun hHeld => ?_)
   clear q0 q1 q2 q3 q4 q5 q6 q7 q8 q9 q10 q11 q12 q13 q14 q15 n4 f4 l4
   clear hK
   refine wpAnyH_done (by kernel_rfl) ?_ _
   exact NoPanic.normal (HQ.out _ _ _ _ _ _ _ _ _ _ _ _ _ _ ⟨_, HB9.out, rfl⟩)
  ·go_simp
   refine (HP.out _ HB6.out).mono ?_
   rintro e w9 ⟨rfl, hb⟩
   have HB9 := Lq (belowT HB6.out hb)
   clear hb
   refine hK.out _ _ (HS.out _ HB9.out) (fun hHeld => ?_)
   clear hK
   refine tk 10 (iv (AR * PR)) ?_
   refine rd1 2 fun K' hK => ?_
   obtain ⟨n4, _, _⟩ := H4.out _ HB9.out
   go_simp
   refine hK.out _ _ hHeld (fun hHeld => ?_)
   clear n4
   clear hK
   refine tk 11 (iv (ACC + AR * PR)) ?_
   refine tk 12 (.pointer (some ⟨g4, 2, none⟩)) ?_
   refine rd1 13 fun K' hK => ?_
   obtain ⟨n4, f4, l4⟩ := H4.out _ HB9.out
   go_simp
   obtain ⟨q0, q1, q2, q3, q4, q5, q6, q7, q8, q9, q10, q11, q12, q13, q14, q15⟩ := HS.out _ HB9.out
   refine hK.out _ _ (by and_intros <;> exact keepSet (by assumption) (by omega)) (fun hHeld => ?_)
   clear q0 q1 q2 q3 q4 q5 q6 q7 q8 q9 q10 q11 q12 q13 q14 q15 n4 f4 l4
   clear hK
   refine wpAnyH_done (by kernel_rfl) ?_ _
   exact NoPanic.normal (HQ.out _ _ _ _ _ _ _ _ _ _ _ _ _ _ ⟨_, HB9.out, rfl⟩)
end Go.Proofs.YtmhjhbchokbonaaGreat
