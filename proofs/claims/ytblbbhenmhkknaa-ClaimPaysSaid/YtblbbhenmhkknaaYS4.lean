/- The reference: Cost (F31), region 5: both lists with one more, in whatever order. Printed by st31.py. -/
import Derived.Deep.RegionHeld3
import Derived.Test.YtblbbhenmhkknaaZdabc57
import Derived.Test.YtblbbhenmhkknaaYReg
import Derived.Test.YtblbbhenmhkknaaZe720a3
namespace Go.Proofs.Ytblbbhenmhkknaa
open Go.RowKit

noncomputable def opsOf : Code → Array Oper
  | .region _ ops _ => ops
  | _ => #[]
noncomputable def opN (ops : Array Oper) (i : Nat) : Oper := (ops[i]?).getD default
noncomputable def ops31_5 : Array Oper := opsOf (regionOf Try.f31 5)

set_option maxRecDepth 1000000 in
set_option maxHeartbeats 2000000 in
theorem st31_0_3_5_6_7_10_14_15 {Q : Exit → Act → World → Prop} {S : World → Prop} {R : Value → Value → World → Prop} {V : World} {vC vD : Value} {N : Nat} {C D : List Value} {f : Clm} {P : Int}
    {z0 z1 z2 z3 z4 z5 z6 z7 z8 z9 z10 z11 z12 z13 z14 z15 z16 z17 z18 z19 z20 z21 z22 z23 z24 z25 z26 z27 z28 z29 z30 z31 z32 z33 z34 z36 z38 z39 z40 z41 z43 z44 z45 z47 z48 z49 z51 z52 z53 z54 z55 z56 z57 z58 z59 z60 z61 z62 z63 z64 z65 z66 z67 z68 z69 z70 z71 z72 : Value}
    (hS : ∀ W', Below V.heap.size V W' → S W') (_hN : N ≤ 8) (_hC : Srcs V 4 vC N C) (_hD : Srcs V 1 vD N D)
    (hcall : ∀ W v39 v48, LiveB V W [some ⟨v39, 46, 4, 0 + N + 1, [] ++ C ++ [.string f.name, .int .i64 f.rank, .int .i64 f.lo, .int .i64 f.hi]⟩, none, some ⟨v48, 3, 1, 0 + N + 1, [] ++ D ++ [.int .i64 f.lo]⟩, none] → Calls Try.prog 76 #[v39, v48, .int .i64 P] W fun e W' => ∃ x y, e = .returned (.tuple #[x, y]) ∧ R x y W')
    (hRB : ∀ x y W', R x y W' → Below V.heap.size V W')
    (hQ : ∀ u32 u33 u34 u35 u36 u37 u38 u39 u40 u41 u42 u43 u44 u45 u46 u47 u48 u49 u50 u51 u52 u53 x y W', R x y W' → Q .normal ⟨#[z0, z1, z2, z3, z4, z5, z6, z7, z8, z9, z10, x, y, z13, z14, z15, z16, z17, z18, z19, z20, z21, z22, z23, z24, z25, z26, z27, z28, z29, z30, z31, u32, u33, u34, u35, u36, u37, u38, u39, u40, u41, u42, u43, u44, u45, u46, u47, u48, u49, u50, u51, u52, u53, z54, z55, z56, z57, z58, z59, z60, z61, z62, z63, z64, z65, z66, z67, z68, z69, z70, z71, z72], []⟩ W')
    {w : World} (hL : LiveB V w [some ⟨z39, 46, 4, 0 + N + 1, [] ++ C ++ [.string f.name, .int .i64 f.rank, .int .i64 f.lo, .int .i64 f.hi]⟩, none, some ⟨z48, 3, 1, 0 + N + 1, [] ++ D ++ [.int .i64 f.lo]⟩, none]) :
    wpAnyH Try.prog .any ops31_5 (NoPanic Q) S 6 #[true, true, true, true, true, true, true, true, true, true, true, true, true, true, true, true, true, true, false, false, false, false, false, false] ⟨#[z0, z1, z2, z3, z4, z5, z6, z7, z8, z9, z10, z11, z12, z13, z14, z15, z16, z17, z18, z19, z20, z21, z22, z23, z24, z25, z26, z27, z28, z29, z30, z31, z32, z33, z34, vC, z36, .agg #[.string f.name, .int .i64 f.rank, .int .i64 f.lo, .int .i64 f.hi], z38, z39, z40, z41, vD, z43, z44, z45, .int .i64 f.lo, z47, z48, z49, .int .i64 P, z51, z52, z53, z54, z55, z56, z57, z58, z59, z60, z61, z62, z63, z64, z65, z66, z67, z68, z69, z70, z71, z72], []⟩ w := by
  refine wpAnyH_ready (rs := [18]) (by kernel_rfl) (by simp) ?_
  refine AllReadyH.cons (o := opN ops31_5 18) (by kernel_rfl) (fun K hK => ?_) ?_
  · obtain ⟨o, e⟩ : ∃ o, o = opN ops31_5 18 := ⟨_, rfl⟩
    rw [← e]
    conv at e => rhs; whnf
    subst e
    go_simp
    refine (hcall _ _ _ hL).mono ?_
    rintro _ W' ⟨x, y, rfl, hR⟩
    refine hK.out _ _ (hS _ (hRB _ _ _ hR)) (fun hHeld => ?_)
    obtain ⟨o, e0⟩ : ∃ o, o = opN ops31_5 19 := ⟨_, rfl⟩
    have e := e0
    conv at e => rhs; whnf
    refine wpAnyH_take (i := 19) (oi := o) (v := .tuple #[x, y]) (by rw [e0]; kernel_rfl) (by kernel_rfl) (by kernel_rfl) (by kernel_rfl) (fun _ _ _ h => h) (Or.inl ⟨by rw [e]; rfl, ?_⟩) (by assumption) ?_
    · clear e0
      subst e
      intro w hSw
      (try dsimp only at hSw)
      go_simp
    clear e0
    subst e
    (try simp only [Act.put, List.setIfInBounds_toArray, List.set_cons_zero, List.set_cons_succ])
    obtain ⟨o, e0⟩ : ∃ o, o = opN ops31_5 20 := ⟨_, rfl⟩
    have e := e0
    conv at e => rhs; whnf
    refine wpAnyH_take (i := 20) (oi := o) (v := x) (by rw [e0]; kernel_rfl) (by kernel_rfl) (by kernel_rfl) (by kernel_rfl) (fun _ _ _ h => h) (Or.inl ⟨by rw [e]; rfl, ?_⟩) (by assumption) ?_
    · clear e0
      subst e
      intro w hSw
      (try dsimp only at hSw)
      go_simp
    clear e0
    subst e
    (try simp only [Act.put, List.setIfInBounds_toArray, List.set_cons_zero, List.set_cons_succ])
    obtain ⟨o, e0⟩ : ∃ o, o = opN ops31_5 21 := ⟨_, rfl⟩
    have e := e0
    conv at e => rhs; whnf
    refine wpAnyH_take (i := 21) (oi := o) (v := y) (by rw [e0]; kernel_rfl) (by kernel_rfl) (by kernel_rfl) (by kernel_rfl) (fun _ _ _ h => h) (Or.inl ⟨by rw [e]; rfl, ?_⟩) (by assumption) ?_
    · clear e0
      subst e
      intro w hSw
      (try dsimp only at hSw)
      go_simp
    clear e0
    subst e
    (try simp only [Act.put, List.setIfInBounds_toArray, List.set_cons_zero, List.set_cons_succ])
    obtain ⟨o, e0⟩ : ∃ o, o = opN ops31_5 22 := ⟨_, rfl⟩
    have e := e0
    conv at e => rhs; whnf
    refine wpAnyH_take (i := 22) (oi := o) (v := x) (by rw [e0]; kernel_rfl) (by kernel_rfl) (by kernel_rfl) (by kernel_rfl) (fun _ _ _ h => h) (Or.inl ⟨by rw [e]; rfl, ?_⟩) (by assumption) ?_
    · clear e0
      subst e
      intro w hSw
      (try dsimp only at hSw)
      go_simp
    clear e0
    subst e
    (try simp only [Act.put, List.setIfInBounds_toArray, List.set_cons_zero, List.set_cons_succ])
    obtain ⟨o, e0⟩ : ∃ o, o = opN ops31_5 23 := ⟨_, rfl⟩
    have e := e0
    conv at e => rhs; whnf
    refine wpAnyH_take (i := 23) (oi := o) (v := y) (by rw [e0]; kernel_rfl) (by kernel_rfl) (by kernel_rfl) (by kernel_rfl) (fun _ _ _ h => h) (Or.inl ⟨by rw [e]; rfl, ?_⟩) (by assumption) ?_
    · clear e0
      subst e
      intro w hSw
      (try dsimp only at hSw)
      go_simp
    clear e0
    subst e
    (try simp only [Act.put, List.setIfInBounds_toArray, List.set_cons_zero, List.set_cons_succ])
    refine wpAnyH_done (by kernel_rfl) ?_ _
    exact NoPanic.normal (hQ _ _ _ _ _ _ _ _ _ _ _ _ _ _ _ _ _ _ _ _ _ _ _ _ _ hR)
  exact AllReadyH.nil

set_option maxRecDepth 1000000 in
set_option maxHeartbeats 2000000 in
theorem st31_0_3_5_6_7_10_14 {Q : Exit → Act → World → Prop} {S : World → Prop} {R : Value → Value → World → Prop} {V : World} {vC vD : Value} {N : Nat} {C D : List Value} {f : Clm} {P : Int}
    {z0 z1 z2 z3 z4 z5 z6 z7 z8 z9 z10 z11 z12 z13 z14 z15 z16 z17 z18 z19 z20 z21 z22 z23 z24 z25 z26 z27 z28 z29 z30 z31 z32 z33 z34 z36 z38 z39 z40 z41 z43 z44 z45 z47 z48 z49 z51 z52 z53 z54 z55 z56 z57 z58 z59 z60 z61 z62 z63 z64 z65 z66 z67 z68 z69 z70 z71 z72 : Value}
    (hS : ∀ W', Below V.heap.size V W' → S W') (hN : N ≤ 8) (hC : Srcs V 4 vC N C) (hD : Srcs V 1 vD N D)
    (hcall : ∀ W v39 v48, LiveB V W [some ⟨v39, 46, 4, 0 + N + 1, [] ++ C ++ [.string f.name, .int .i64 f.rank, .int .i64 f.lo, .int .i64 f.hi]⟩, none, some ⟨v48, 3, 1, 0 + N + 1, [] ++ D ++ [.int .i64 f.lo]⟩, none] → Calls Try.prog 76 #[v39, v48, .int .i64 P] W fun e W' => ∃ x y, e = .returned (.tuple #[x, y]) ∧ R x y W')
    (hRB : ∀ x y W', R x y W' → Below V.heap.size V W')
    (hQ : ∀ u32 u33 u34 u35 u36 u37 u38 u39 u40 u41 u42 u43 u44 u45 u46 u47 u48 u49 u50 u51 u52 u53 x y W', R x y W' → Q .normal ⟨#[z0, z1, z2, z3, z4, z5, z6, z7, z8, z9, z10, x, y, z13, z14, z15, z16, z17, z18, z19, z20, z21, z22, z23, z24, z25, z26, z27, z28, z29, z30, z31, u32, u33, u34, u35, u36, u37, u38, u39, u40, u41, u42, u43, u44, u45, u46, u47, u48, u49, u50, u51, u52, u53, z54, z55, z56, z57, z58, z59, z60, z61, z62, z63, z64, z65, z66, z67, z68, z69, z70, z71, z72], []⟩ W')
    {w : World} (hL : LiveB V w [some ⟨z39, 46, 4, 0 + N + 1, [] ++ C ++ [.string f.name, .int .i64 f.rank, .int .i64 f.lo, .int .i64 f.hi]⟩, none, some ⟨z43, 3, 1, 0 + N, [] ++ D⟩, some ⟨z47, 3, 1, 1, [.int .i64 f.lo]⟩]) :
    wpAnyH Try.prog .any ops31_5 (NoPanic Q) S 7 #[true, true, true, true, true, true, true, true, true, true, true, true, true, true, true, false, true, true, false, false, false, false, false, false] ⟨#[z0, z1, z2, z3, z4, z5, z6, z7, z8, z9, z10, z11, z12, z13, z14, z15, z16, z17, z18, z19, z20, z21, z22, z23, z24, z25, z26, z27, z28, z29, z30, z31, z32, z33, z34, vC, z36, .agg #[.string f.name, .int .i64 f.rank, .int .i64 f.lo, .int .i64 f.hi], z38, z39, z40, z41, vD, z43, z44, z45, .int .i64 f.lo, z47, z48, z49, .int .i64 P, z51, z52, z53, z54, z55, z56, z57, z58, z59, z60, z61, z62, z63, z64, z65, z66, z67, z68, z69, z70, z71, z72], []⟩ w := by
  refine wpAnyH_ready (rs := [15]) (by kernel_rfl) (by simp) ?_
  refine AllReadyH.cons (o := opN ops31_5 15) (by kernel_rfl) (fun K hK => ?_) ?_
  · obtain ⟨i4, hi4, hz40, hz41, hz42⟩ := info_parts Try.info3
    have hsrc := live_src hL.2 (k := 3) rfl (by simp [Value.oneCell'])
    refine step_append_live (by rfl) _ _ 32 (by rfl) hL 2 _ rfl i4 _ 8 Try.underlying32 hi4 hz40 hz41 hz42 rfl (Nat.succ_pos _) (by rfl) _ 1 _ (by rfl) hsrc (by simp only []; unfold maxLen; omega) (by simp only []; omega) ?_
    intro v' w' hL'
    have hL' := liveB_drop hL' 3
    exact hK.out _ _ (hS _ hL'.1) (fun _ => st31_0_3_5_6_7_10_14_15 hS hN hC hD hcall hRB hQ hL')
  exact AllReadyH.nil

set_option maxRecDepth 1000000 in
set_option maxHeartbeats 2000000 in
theorem st31_0_3_5_6_7_10 {Q : Exit → Act → World → Prop} {S : World → Prop} {R : Value → Value → World → Prop} {V : World} {vC vD : Value} {N : Nat} {C D : List Value} {f : Clm} {P : Int}
    {z0 z1 z2 z3 z4 z5 z6 z7 z8 z9 z10 z11 z12 z13 z14 z15 z16 z17 z18 z19 z20 z21 z22 z23 z24 z25 z26 z27 z28 z29 z30 z31 z32 z33 z34 z36 z38 z39 z40 z41 z43 z44 z45 z47 z48 z49 z51 z52 z53 z54 z55 z56 z57 z58 z59 z60 z61 z62 z63 z64 z65 z66 z67 z68 z69 z70 z71 z72 : Value}
    (hS : ∀ W', Below V.heap.size V W' → S W') (hN : N ≤ 8) (hC : Srcs V 4 vC N C) (hD : Srcs V 1 vD N D)
    (hcall : ∀ W v39 v48, LiveB V W [some ⟨v39, 46, 4, 0 + N + 1, [] ++ C ++ [.string f.name, .int .i64 f.rank, .int .i64 f.lo, .int .i64 f.hi]⟩, none, some ⟨v48, 3, 1, 0 + N + 1, [] ++ D ++ [.int .i64 f.lo]⟩, none] → Calls Try.prog 76 #[v39, v48, .int .i64 P] W fun e W' => ∃ x y, e = .returned (.tuple #[x, y]) ∧ R x y W')
    (hRB : ∀ x y W', R x y W' → Below V.heap.size V W')
    (hQ : ∀ u32 u33 u34 u35 u36 u37 u38 u39 u40 u41 u42 u43 u44 u45 u46 u47 u48 u49 u50 u51 u52 u53 x y W', R x y W' → Q .normal ⟨#[z0, z1, z2, z3, z4, z5, z6, z7, z8, z9, z10, x, y, z13, z14, z15, z16, z17, z18, z19, z20, z21, z22, z23, z24, z25, z26, z27, z28, z29, z30, z31, u32, u33, u34, u35, u36, u37, u38, u39, u40, u41, u42, u43, u44, u45, u46, u47, u48, u49, u50, u51, u52, u53, z54, z55, z56, z57, z58, z59, z60, z61, z62, z63, z64, z65, z66, z67, z68, z69, z70, z71, z72], []⟩ W')
    {w : World} (hL : LiveB V w [some ⟨z39, 46, 4, 0 + N + 1, [] ++ C ++ [.string f.name, .int .i64 f.rank, .int .i64 f.lo, .int .i64 f.hi]⟩, none, some ⟨z43, 3, 1, 0 + N, [] ++ D⟩, none]) :
    wpAnyH Try.prog .any ops31_5 (NoPanic Q) S 8 #[true, true, true, true, true, true, true, true, true, true, true, true, true, true, false, false, true, true, false, false, false, false, false, false] ⟨#[z0, z1, z2, z3, z4, z5, z6, z7, z8, z9, z10, z11, z12, z13, z14, z15, z16, z17, z18, z19, z20, z21, z22, z23, z24, z25, z26, z27, z28, z29, z30, z31, z32, z33, z34, vC, z36, .agg #[.string f.name, .int .i64 f.rank, .int .i64 f.lo, .int .i64 f.hi], z38, z39, z40, z41, vD, z43, z44, z45, .int .i64 f.lo, z47, z48, z49, .int .i64 P, z51, z52, z53, z54, z55, z56, z57, z58, z59, z60, z61, z62, z63, z64, z65, z66, z67, z68, z69, z70, z71, z72], []⟩ w := by
  refine wpAnyH_ready (rs := [14]) (by kernel_rfl) (by simp) ?_
  refine AllReadyH.cons (o := opN ops31_5 14) (by kernel_rfl) (fun K hK => ?_) ?_
  · obtain ⟨o, e⟩ : ∃ o, o = opN ops31_5 14 := ⟨_, rfl⟩
    rw [← e]
    conv at e => rhs; whnf
    subst e
    go_simp
    have hL' := liveB_lit hL 3 #[.int .i64 f.lo] 3 1 1 (by unfold maxLen; omega) rfl
    exact hK.out _ _ (hS _ hL'.1) (fun _ => st31_0_3_5_6_7_10_14 hS hN hC hD hcall hRB hQ hL')
  exact AllReadyH.nil

set_option maxRecDepth 1000000 in
set_option maxHeartbeats 2000000 in
theorem st31_0_3_5_6_7_14 {Q : Exit → Act → World → Prop} {S : World → Prop} {R : Value → Value → World → Prop} {V : World} {vC vD : Value} {N : Nat} {C D : List Value} {f : Clm} {P : Int}
    {z0 z1 z2 z3 z4 z5 z6 z7 z8 z9 z10 z11 z12 z13 z14 z15 z16 z17 z18 z19 z20 z21 z22 z23 z24 z25 z26 z27 z28 z29 z30 z31 z32 z33 z34 z36 z38 z39 z40 z41 z43 z44 z45 z47 z48 z49 z51 z52 z53 z54 z55 z56 z57 z58 z59 z60 z61 z62 z63 z64 z65 z66 z67 z68 z69 z70 z71 z72 : Value}
    (hS : ∀ W', Below V.heap.size V W' → S W') (hN : N ≤ 8) (hC : Srcs V 4 vC N C) (hD : Srcs V 1 vD N D)
    (hcall : ∀ W v39 v48, LiveB V W [some ⟨v39, 46, 4, 0 + N + 1, [] ++ C ++ [.string f.name, .int .i64 f.rank, .int .i64 f.lo, .int .i64 f.hi]⟩, none, some ⟨v48, 3, 1, 0 + N + 1, [] ++ D ++ [.int .i64 f.lo]⟩, none] → Calls Try.prog 76 #[v39, v48, .int .i64 P] W fun e W' => ∃ x y, e = .returned (.tuple #[x, y]) ∧ R x y W')
    (hRB : ∀ x y W', R x y W' → Below V.heap.size V W')
    (hQ : ∀ u32 u33 u34 u35 u36 u37 u38 u39 u40 u41 u42 u43 u44 u45 u46 u47 u48 u49 u50 u51 u52 u53 x y W', R x y W' → Q .normal ⟨#[z0, z1, z2, z3, z4, z5, z6, z7, z8, z9, z10, x, y, z13, z14, z15, z16, z17, z18, z19, z20, z21, z22, z23, z24, z25, z26, z27, z28, z29, z30, z31, u32, u33, u34, u35, u36, u37, u38, u39, u40, u41, u42, u43, u44, u45, u46, u47, u48, u49, u50, u51, u52, u53, z54, z55, z56, z57, z58, z59, z60, z61, z62, z63, z64, z65, z66, z67, z68, z69, z70, z71, z72], []⟩ W')
    {w : World} (hL : LiveB V w [some ⟨z39, 46, 4, 0 + N + 1, [] ++ C ++ [.string f.name, .int .i64 f.rank, .int .i64 f.lo, .int .i64 f.hi]⟩, none, some ⟨z40, 3, 1, 0, []⟩, some ⟨z47, 3, 1, 1, [.int .i64 f.lo]⟩]) :
    wpAnyH Try.prog .any ops31_5 (NoPanic Q) S 8 #[true, true, true, true, true, true, true, true, true, true, false, true, true, true, true, false, true, true, false, false, false, false, false, false] ⟨#[z0, z1, z2, z3, z4, z5, z6, z7, z8, z9, z10, z11, z12, z13, z14, z15, z16, z17, z18, z19, z20, z21, z22, z23, z24, z25, z26, z27, z28, z29, z30, z31, z32, z33, z34, vC, z36, .agg #[.string f.name, .int .i64 f.rank, .int .i64 f.lo, .int .i64 f.hi], z38, z39, z40, z41, vD, z43, z44, z45, .int .i64 f.lo, z47, z48, z49, .int .i64 P, z51, z52, z53, z54, z55, z56, z57, z58, z59, z60, z61, z62, z63, z64, z65, z66, z67, z68, z69, z70, z71, z72], []⟩ w := by
  refine wpAnyH_ready (rs := [10]) (by kernel_rfl) (by simp) ?_
  refine AllReadyH.cons (o := opN ops31_5 10) (by kernel_rfl) (fun K hK => ?_) ?_
  · obtain ⟨i4, hi4, hz40, hz41, hz42⟩ := info_parts Try.info3
    refine step_append_live (by rfl) _ _ 32 (by rfl) hL 2 _ rfl i4 _ 8 Try.underlying32 hi4 hz40 hz41 hz42 rfl (Nat.succ_pos _) (by rfl) vD N _ (by rfl) (srcs_keep hL hD) (by simp only []; unfold maxLen; omega) (by simp only []; omega) ?_
    intro v' w' hL'
    exact hK.out _ _ (hS _ hL'.1) (fun _ => st31_0_3_5_6_7_10_14 hS hN hC hD hcall hRB hQ hL')
  exact AllReadyH.nil

set_option maxRecDepth 1000000 in
set_option maxHeartbeats 2000000 in
theorem st31_0_3_5_6_7 {Q : Exit → Act → World → Prop} {S : World → Prop} {R : Value → Value → World → Prop} {V : World} {vC vD : Value} {N : Nat} {C D : List Value} {f : Clm} {P : Int}
    {z0 z1 z2 z3 z4 z5 z6 z7 z8 z9 z10 z11 z12 z13 z14 z15 z16 z17 z18 z19 z20 z21 z22 z23 z24 z25 z26 z27 z28 z29 z30 z31 z32 z33 z34 z36 z38 z39 z40 z41 z43 z44 z45 z47 z48 z49 z51 z52 z53 z54 z55 z56 z57 z58 z59 z60 z61 z62 z63 z64 z65 z66 z67 z68 z69 z70 z71 z72 : Value}
    (hS : ∀ W', Below V.heap.size V W' → S W') (hN : N ≤ 8) (hC : Srcs V 4 vC N C) (hD : Srcs V 1 vD N D)
    (hcall : ∀ W v39 v48, LiveB V W [some ⟨v39, 46, 4, 0 + N + 1, [] ++ C ++ [.string f.name, .int .i64 f.rank, .int .i64 f.lo, .int .i64 f.hi]⟩, none, some ⟨v48, 3, 1, 0 + N + 1, [] ++ D ++ [.int .i64 f.lo]⟩, none] → Calls Try.prog 76 #[v39, v48, .int .i64 P] W fun e W' => ∃ x y, e = .returned (.tuple #[x, y]) ∧ R x y W')
    (hRB : ∀ x y W', R x y W' → Below V.heap.size V W')
    (hQ : ∀ u32 u33 u34 u35 u36 u37 u38 u39 u40 u41 u42 u43 u44 u45 u46 u47 u48 u49 u50 u51 u52 u53 x y W', R x y W' → Q .normal ⟨#[z0, z1, z2, z3, z4, z5, z6, z7, z8, z9, z10, x, y, z13, z14, z15, z16, z17, z18, z19, z20, z21, z22, z23, z24, z25, z26, z27, z28, z29, z30, z31, u32, u33, u34, u35, u36, u37, u38, u39, u40, u41, u42, u43, u44, u45, u46, u47, u48, u49, u50, u51, u52, u53, z54, z55, z56, z57, z58, z59, z60, z61, z62, z63, z64, z65, z66, z67, z68, z69, z70, z71, z72], []⟩ W')
    {w : World} (hL : LiveB V w [some ⟨z39, 46, 4, 0 + N + 1, [] ++ C ++ [.string f.name, .int .i64 f.rank, .int .i64 f.lo, .int .i64 f.hi]⟩, none, some ⟨z40, 3, 1, 0, []⟩, none]) :
    wpAnyH Try.prog .any ops31_5 (NoPanic Q) S 9 #[true, true, true, true, true, true, true, true, true, true, false, true, true, true, false, false, true, true, false, false, false, false, false, false] ⟨#[z0, z1, z2, z3, z4, z5, z6, z7, z8, z9, z10, z11, z12, z13, z14, z15, z16, z17, z18, z19, z20, z21, z22, z23, z24, z25, z26, z27, z28, z29, z30, z31, z32, z33, z34, vC, z36, .agg #[.string f.name, .int .i64 f.rank, .int .i64 f.lo, .int .i64 f.hi], z38, z39, z40, z41, vD, z43, z44, z45, .int .i64 f.lo, z47, z48, z49, .int .i64 P, z51, z52, z53, z54, z55, z56, z57, z58, z59, z60, z61, z62, z63, z64, z65, z66, z67, z68, z69, z70, z71, z72], []⟩ w := by
  refine wpAnyH_ready (rs := [10, 14]) (by kernel_rfl) (by simp) ?_
  refine AllReadyH.cons (o := opN ops31_5 10) (by kernel_rfl) (fun K hK => ?_) ?_
  · obtain ⟨i4, hi4, hz40, hz41, hz42⟩ := info_parts Try.info3
    refine step_append_live (by rfl) _ _ 32 (by rfl) hL 2 _ rfl i4 _ 8 Try.underlying32 hi4 hz40 hz41 hz42 rfl (Nat.succ_pos _) (by rfl) vD N _ (by rfl) (srcs_keep hL hD) (by simp only []; unfold maxLen; omega) (by simp only []; omega) ?_
    intro v' w' hL'
    exact hK.out _ _ (hS _ hL'.1) (fun _ => st31_0_3_5_6_7_10 hS hN hC hD hcall hRB hQ hL')
  refine AllReadyH.cons (o := opN ops31_5 14) (by kernel_rfl) (fun K hK => ?_) ?_
  · obtain ⟨o, e⟩ : ∃ o, o = opN ops31_5 14 := ⟨_, rfl⟩
    rw [← e]
    conv at e => rhs; whnf
    subst e
    go_simp
    have hL' := liveB_lit hL 3 #[.int .i64 f.lo] 3 1 1 (by unfold maxLen; omega) rfl
    exact hK.out _ _ (hS _ hL'.1) (fun _ => st31_0_3_5_6_7_14 hS hN hC hD hcall hRB hQ hL')
  exact AllReadyH.nil

set_option maxRecDepth 1000000 in
set_option maxHeartbeats 2000000 in
theorem st31_0_3_5_6_14 {Q : Exit → Act → World → Prop} {S : World → Prop} {R : Value → Value → World → Prop} {V : World} {vC vD : Value} {N : Nat} {C D : List Value} {f : Clm} {P : Int}
    {z0 z1 z2 z3 z4 z5 z6 z7 z8 z9 z10 z11 z12 z13 z14 z15 z16 z17 z18 z19 z20 z21 z22 z23 z24 z25 z26 z27 z28 z29 z30 z31 z32 z33 z34 z36 z38 z39 z40 z41 z43 z44 z45 z47 z48 z49 z51 z52 z53 z54 z55 z56 z57 z58 z59 z60 z61 z62 z63 z64 z65 z66 z67 z68 z69 z70 z71 z72 : Value}
    (hS : ∀ W', Below V.heap.size V W' → S W') (hN : N ≤ 8) (hC : Srcs V 4 vC N C) (hD : Srcs V 1 vD N D)
    (hcall : ∀ W v39 v48, LiveB V W [some ⟨v39, 46, 4, 0 + N + 1, [] ++ C ++ [.string f.name, .int .i64 f.rank, .int .i64 f.lo, .int .i64 f.hi]⟩, none, some ⟨v48, 3, 1, 0 + N + 1, [] ++ D ++ [.int .i64 f.lo]⟩, none] → Calls Try.prog 76 #[v39, v48, .int .i64 P] W fun e W' => ∃ x y, e = .returned (.tuple #[x, y]) ∧ R x y W')
    (hRB : ∀ x y W', R x y W' → Below V.heap.size V W')
    (hQ : ∀ u32 u33 u34 u35 u36 u37 u38 u39 u40 u41 u42 u43 u44 u45 u46 u47 u48 u49 u50 u51 u52 u53 x y W', R x y W' → Q .normal ⟨#[z0, z1, z2, z3, z4, z5, z6, z7, z8, z9, z10, x, y, z13, z14, z15, z16, z17, z18, z19, z20, z21, z22, z23, z24, z25, z26, z27, z28, z29, z30, z31, u32, u33, u34, u35, u36, u37, u38, u39, u40, u41, u42, u43, u44, u45, u46, u47, u48, u49, u50, u51, u52, u53, z54, z55, z56, z57, z58, z59, z60, z61, z62, z63, z64, z65, z66, z67, z68, z69, z70, z71, z72], []⟩ W')
    {w : World} (hL : LiveB V w [some ⟨z39, 46, 4, 0 + N + 1, [] ++ C ++ [.string f.name, .int .i64 f.rank, .int .i64 f.lo, .int .i64 f.hi]⟩, none, none, some ⟨z47, 3, 1, 1, [.int .i64 f.lo]⟩]) :
    wpAnyH Try.prog .any ops31_5 (NoPanic Q) S 9 #[true, true, true, true, true, true, true, false, true, true, false, true, true, true, true, false, true, true, false, false, false, false, false, false] ⟨#[z0, z1, z2, z3, z4, z5, z6, z7, z8, z9, z10, z11, z12, z13, z14, z15, z16, z17, z18, z19, z20, z21, z22, z23, z24, z25, z26, z27, z28, z29, z30, z31, z32, z33, z34, vC, z36, .agg #[.string f.name, .int .i64 f.rank, .int .i64 f.lo, .int .i64 f.hi], z38, z39, z40, z41, vD, z43, z44, z45, .int .i64 f.lo, z47, z48, z49, .int .i64 P, z51, z52, z53, z54, z55, z56, z57, z58, z59, z60, z61, z62, z63, z64, z65, z66, z67, z68, z69, z70, z71, z72], []⟩ w := by
  refine wpAnyH_ready (rs := [7]) (by kernel_rfl) (by simp) ?_
  refine AllReadyH.cons (o := opN ops31_5 7) (by kernel_rfl) (fun K hK => ?_) ?_
  · obtain ⟨o, e⟩ : ∃ o, o = opN ops31_5 7 := ⟨_, rfl⟩
    rw [← e]
    conv at e => rhs; whnf
    subst e
    go_simp
    have hL' := liveB_lit hL 2 #[] 3 1 0 (Nat.zero_le _) rfl
    exact hK.out _ _ (hS _ hL'.1) (fun _ => st31_0_3_5_6_7_14 hS hN hC hD hcall hRB hQ hL')
  exact AllReadyH.nil

set_option maxRecDepth 1000000 in
set_option maxHeartbeats 2000000 in
theorem st31_0_3_5_7_14 {Q : Exit → Act → World → Prop} {S : World → Prop} {R : Value → Value → World → Prop} {V : World} {vC vD : Value} {N : Nat} {C D : List Value} {f : Clm} {P : Int}
    {z0 z1 z2 z3 z4 z5 z6 z7 z8 z9 z10 z11 z12 z13 z14 z15 z16 z17 z18 z19 z20 z21 z22 z23 z24 z25 z26 z27 z28 z29 z30 z31 z32 z33 z34 z36 z38 z39 z40 z41 z43 z44 z45 z47 z48 z49 z51 z52 z53 z54 z55 z56 z57 z58 z59 z60 z61 z62 z63 z64 z65 z66 z67 z68 z69 z70 z71 z72 : Value}
    (hS : ∀ W', Below V.heap.size V W' → S W') (hN : N ≤ 8) (hC : Srcs V 4 vC N C) (hD : Srcs V 1 vD N D)
    (hcall : ∀ W v39 v48, LiveB V W [some ⟨v39, 46, 4, 0 + N + 1, [] ++ C ++ [.string f.name, .int .i64 f.rank, .int .i64 f.lo, .int .i64 f.hi]⟩, none, some ⟨v48, 3, 1, 0 + N + 1, [] ++ D ++ [.int .i64 f.lo]⟩, none] → Calls Try.prog 76 #[v39, v48, .int .i64 P] W fun e W' => ∃ x y, e = .returned (.tuple #[x, y]) ∧ R x y W')
    (hRB : ∀ x y W', R x y W' → Below V.heap.size V W')
    (hQ : ∀ u32 u33 u34 u35 u36 u37 u38 u39 u40 u41 u42 u43 u44 u45 u46 u47 u48 u49 u50 u51 u52 u53 x y W', R x y W' → Q .normal ⟨#[z0, z1, z2, z3, z4, z5, z6, z7, z8, z9, z10, x, y, z13, z14, z15, z16, z17, z18, z19, z20, z21, z22, z23, z24, z25, z26, z27, z28, z29, z30, z31, u32, u33, u34, u35, u36, u37, u38, u39, u40, u41, u42, u43, u44, u45, u46, u47, u48, u49, u50, u51, u52, u53, z54, z55, z56, z57, z58, z59, z60, z61, z62, z63, z64, z65, z66, z67, z68, z69, z70, z71, z72], []⟩ W')
    {w : World} (hL : LiveB V w [some ⟨z36, 46, 4, 0 + N, [] ++ C⟩, some ⟨z38, 46, 4, 1, [.string f.name, .int .i64 f.rank, .int .i64 f.lo, .int .i64 f.hi]⟩, some ⟨z40, 3, 1, 0, []⟩, some ⟨z47, 3, 1, 1, [.int .i64 f.lo]⟩]) :
    wpAnyH Try.prog .any ops31_5 (NoPanic Q) S 9 #[true, true, true, true, true, true, false, true, true, true, false, true, true, true, true, false, true, true, false, false, false, false, false, false] ⟨#[z0, z1, z2, z3, z4, z5, z6, z7, z8, z9, z10, z11, z12, z13, z14, z15, z16, z17, z18, z19, z20, z21, z22, z23, z24, z25, z26, z27, z28, z29, z30, z31, z32, z33, z34, vC, z36, .agg #[.string f.name, .int .i64 f.rank, .int .i64 f.lo, .int .i64 f.hi], z38, z39, z40, z41, vD, z43, z44, z45, .int .i64 f.lo, z47, z48, z49, .int .i64 P, z51, z52, z53, z54, z55, z56, z57, z58, z59, z60, z61, z62, z63, z64, z65, z66, z67, z68, z69, z70, z71, z72], []⟩ w := by
  refine wpAnyH_ready (rs := [6]) (by kernel_rfl) (by simp) ?_
  refine AllReadyH.cons (o := opN ops31_5 6) (by kernel_rfl) (fun K hK => ?_) ?_
  · obtain ⟨i4, hi4, hz40, hz41, hz42⟩ := info_parts Try.info46
    have hsrc := live_src hL.2 (k := 1) rfl (by simp [Value.oneCell'])
    refine step_append_live (by rfl) _ _ 40 (by rfl) hL 0 _ rfl i4 _ 40 Try.underlying40 hi4 hz40 hz41 hz42 rfl (Nat.succ_pos _) (by rfl) _ 1 _ (by rfl) hsrc (by simp only []; unfold maxLen; omega) (by simp only []; omega) ?_
    intro v' w' hL'
    have hL' := liveB_drop hL' 1
    exact hK.out _ _ (hS _ hL'.1) (fun _ => st31_0_3_5_6_7_14 hS hN hC hD hcall hRB hQ hL')
  exact AllReadyH.nil

set_option maxRecDepth 1000000 in
set_option maxHeartbeats 2000000 in
theorem st31_0_3_5_6 {Q : Exit → Act → World → Prop} {S : World → Prop} {R : Value → Value → World → Prop} {V : World} {vC vD : Value} {N : Nat} {C D : List Value} {f : Clm} {P : Int}
    {z0 z1 z2 z3 z4 z5 z6 z7 z8 z9 z10 z11 z12 z13 z14 z15 z16 z17 z18 z19 z20 z21 z22 z23 z24 z25 z26 z27 z28 z29 z30 z31 z32 z33 z34 z36 z38 z39 z40 z41 z43 z44 z45 z47 z48 z49 z51 z52 z53 z54 z55 z56 z57 z58 z59 z60 z61 z62 z63 z64 z65 z66 z67 z68 z69 z70 z71 z72 : Value}
    (hS : ∀ W', Below V.heap.size V W' → S W') (hN : N ≤ 8) (hC : Srcs V 4 vC N C) (hD : Srcs V 1 vD N D)
    (hcall : ∀ W v39 v48, LiveB V W [some ⟨v39, 46, 4, 0 + N + 1, [] ++ C ++ [.string f.name, .int .i64 f.rank, .int .i64 f.lo, .int .i64 f.hi]⟩, none, some ⟨v48, 3, 1, 0 + N + 1, [] ++ D ++ [.int .i64 f.lo]⟩, none] → Calls Try.prog 76 #[v39, v48, .int .i64 P] W fun e W' => ∃ x y, e = .returned (.tuple #[x, y]) ∧ R x y W')
    (hRB : ∀ x y W', R x y W' → Below V.heap.size V W')
    (hQ : ∀ u32 u33 u34 u35 u36 u37 u38 u39 u40 u41 u42 u43 u44 u45 u46 u47 u48 u49 u50 u51 u52 u53 x y W', R x y W' → Q .normal ⟨#[z0, z1, z2, z3, z4, z5, z6, z7, z8, z9, z10, x, y, z13, z14, z15, z16, z17, z18, z19, z20, z21, z22, z23, z24, z25, z26, z27, z28, z29, z30, z31, u32, u33, u34, u35, u36, u37, u38, u39, u40, u41, u42, u43, u44, u45, u46, u47, u48, u49, u50, u51, u52, u53, z54, z55, z56, z57, z58, z59, z60, z61, z62, z63, z64, z65, z66, z67, z68, z69, z70, z71, z72], []⟩ W')
    {w : World} (hL : LiveB V w [some ⟨z39, 46, 4, 0 + N + 1, [] ++ C ++ [.string f.name, .int .i64 f.rank, .int .i64 f.lo, .int .i64 f.hi]⟩, none, none, none]) :
    wpAnyH Try.prog .any ops31_5 (NoPanic Q) S 10 #[true, true, true, true, true, true, true, false, true, true, false, true, true, true, false, false, true, true, false, false, false, false, false, false] ⟨#[z0, z1, z2, z3, z4, z5, z6, z7, z8, z9, z10, z11, z12, z13, z14, z15, z16, z17, z18, z19, z20, z21, z22, z23, z24, z25, z26, z27, z28, z29, z30, z31, z32, z33, z34, vC, z36, .agg #[.string f.name, .int .i64 f.rank, .int .i64 f.lo, .int .i64 f.hi], z38, z39, z40, z41, vD, z43, z44, z45, .int .i64 f.lo, z47, z48, z49, .int .i64 P, z51, z52, z53, z54, z55, z56, z57, z58, z59, z60, z61, z62, z63, z64, z65, z66, z67, z68, z69, z70, z71, z72], []⟩ w := by
  refine wpAnyH_ready (rs := [7, 14]) (by kernel_rfl) (by simp) ?_
  refine AllReadyH.cons (o := opN ops31_5 7) (by kernel_rfl) (fun K hK => ?_) ?_
  · obtain ⟨o, e⟩ : ∃ o, o = opN ops31_5 7 := ⟨_, rfl⟩
    rw [← e]
    conv at e => rhs; whnf
    subst e
    go_simp
    have hL' := liveB_lit hL 2 #[] 3 1 0 (Nat.zero_le _) rfl
    exact hK.out _ _ (hS _ hL'.1) (fun _ => st31_0_3_5_6_7 hS hN hC hD hcall hRB hQ hL')
  refine AllReadyH.cons (o := opN ops31_5 14) (by kernel_rfl) (fun K hK => ?_) ?_
  · obtain ⟨o, e⟩ : ∃ o, o = opN ops31_5 14 := ⟨_, rfl⟩
    rw [← e]
    conv at e => rhs; whnf
    subst e
    go_simp
    have hL' := liveB_lit hL 3 #[.int .i64 f.lo] 3 1 1 (by unfold maxLen; omega) rfl
    exact hK.out _ _ (hS _ hL'.1) (fun _ => st31_0_3_5_6_14 hS hN hC hD hcall hRB hQ hL')
  exact AllReadyH.nil

set_option maxRecDepth 1000000 in
set_option maxHeartbeats 2000000 in
theorem st31_0_3_5_7 {Q : Exit → Act → World → Prop} {S : World → Prop} {R : Value → Value → World → Prop} {V : World} {vC vD : Value} {N : Nat} {C D : List Value} {f : Clm} {P : Int}
    {z0 z1 z2 z3 z4 z5 z6 z7 z8 z9 z10 z11 z12 z13 z14 z15 z16 z17 z18 z19 z20 z21 z22 z23 z24 z25 z26 z27 z28 z29 z30 z31 z32 z33 z34 z36 z38 z39 z40 z41 z43 z44 z45 z47 z48 z49 z51 z52 z53 z54 z55 z56 z57 z58 z59 z60 z61 z62 z63 z64 z65 z66 z67 z68 z69 z70 z71 z72 : Value}
    (hS : ∀ W', Below V.heap.size V W' → S W') (hN : N ≤ 8) (hC : Srcs V 4 vC N C) (hD : Srcs V 1 vD N D)
    (hcall : ∀ W v39 v48, LiveB V W [some ⟨v39, 46, 4, 0 + N + 1, [] ++ C ++ [.string f.name, .int .i64 f.rank, .int .i64 f.lo, .int .i64 f.hi]⟩, none, some ⟨v48, 3, 1, 0 + N + 1, [] ++ D ++ [.int .i64 f.lo]⟩, none] → Calls Try.prog 76 #[v39, v48, .int .i64 P] W fun e W' => ∃ x y, e = .returned (.tuple #[x, y]) ∧ R x y W')
    (hRB : ∀ x y W', R x y W' → Below V.heap.size V W')
    (hQ : ∀ u32 u33 u34 u35 u36 u37 u38 u39 u40 u41 u42 u43 u44 u45 u46 u47 u48 u49 u50 u51 u52 u53 x y W', R x y W' → Q .normal ⟨#[z0, z1, z2, z3, z4, z5, z6, z7, z8, z9, z10, x, y, z13, z14, z15, z16, z17, z18, z19, z20, z21, z22, z23, z24, z25, z26, z27, z28, z29, z30, z31, u32, u33, u34, u35, u36, u37, u38, u39, u40, u41, u42, u43, u44, u45, u46, u47, u48, u49, u50, u51, u52, u53, z54, z55, z56, z57, z58, z59, z60, z61, z62, z63, z64, z65, z66, z67, z68, z69, z70, z71, z72], []⟩ W')
    {w : World} (hL : LiveB V w [some ⟨z36, 46, 4, 0 + N, [] ++ C⟩, some ⟨z38, 46, 4, 1, [.string f.name, .int .i64 f.rank, .int .i64 f.lo, .int .i64 f.hi]⟩, some ⟨z40, 3, 1, 0, []⟩, none]) :
    wpAnyH Try.prog .any ops31_5 (NoPanic Q) S 10 #[true, true, true, true, true, true, false, true, true, true, false, true, true, true, false, false, true, true, false, false, false, false, false, false] ⟨#[z0, z1, z2, z3, z4, z5, z6, z7, z8, z9, z10, z11, z12, z13, z14, z15, z16, z17, z18, z19, z20, z21, z22, z23, z24, z25, z26, z27, z28, z29, z30, z31, z32, z33, z34, vC, z36, .agg #[.string f.name, .int .i64 f.rank, .int .i64 f.lo, .int .i64 f.hi], z38, z39, z40, z41, vD, z43, z44, z45, .int .i64 f.lo, z47, z48, z49, .int .i64 P, z51, z52, z53, z54, z55, z56, z57, z58, z59, z60, z61, z62, z63, z64, z65, z66, z67, z68, z69, z70, z71, z72], []⟩ w := by
  refine wpAnyH_ready (rs := [6, 14]) (by kernel_rfl) (by simp) ?_
  refine AllReadyH.cons (o := opN ops31_5 6) (by kernel_rfl) (fun K hK => ?_) ?_
  · obtain ⟨i4, hi4, hz40, hz41, hz42⟩ := info_parts Try.info46
    have hsrc := live_src hL.2 (k := 1) rfl (by simp [Value.oneCell'])
    refine step_append_live (by rfl) _ _ 40 (by rfl) hL 0 _ rfl i4 _ 40 Try.underlying40 hi4 hz40 hz41 hz42 rfl (Nat.succ_pos _) (by rfl) _ 1 _ (by rfl) hsrc (by simp only []; unfold maxLen; omega) (by simp only []; omega) ?_
    intro v' w' hL'
    have hL' := liveB_drop hL' 1
    exact hK.out _ _ (hS _ hL'.1) (fun _ => st31_0_3_5_6_7 hS hN hC hD hcall hRB hQ hL')
  refine AllReadyH.cons (o := opN ops31_5 14) (by kernel_rfl) (fun K hK => ?_) ?_
  · obtain ⟨o, e⟩ : ∃ o, o = opN ops31_5 14 := ⟨_, rfl⟩
    rw [← e]
    conv at e => rhs; whnf
    subst e
    go_simp
    have hL' := liveB_lit hL 3 #[.int .i64 f.lo] 3 1 1 (by unfold maxLen; omega) rfl
    exact hK.out _ _ (hS _ hL'.1) (fun _ => st31_0_3_5_7_14 hS hN hC hD hcall hRB hQ hL')
  exact AllReadyH.nil

set_option maxRecDepth 1000000 in
set_option maxHeartbeats 2000000 in
theorem st31_0_3_5_14 {Q : Exit → Act → World → Prop} {S : World → Prop} {R : Value → Value → World → Prop} {V : World} {vC vD : Value} {N : Nat} {C D : List Value} {f : Clm} {P : Int}
    {z0 z1 z2 z3 z4 z5 z6 z7 z8 z9 z10 z11 z12 z13 z14 z15 z16 z17 z18 z19 z20 z21 z22 z23 z24 z25 z26 z27 z28 z29 z30 z31 z32 z33 z34 z36 z38 z39 z40 z41 z43 z44 z45 z47 z48 z49 z51 z52 z53 z54 z55 z56 z57 z58 z59 z60 z61 z62 z63 z64 z65 z66 z67 z68 z69 z70 z71 z72 : Value}
    (hS : ∀ W', Below V.heap.size V W' → S W') (hN : N ≤ 8) (hC : Srcs V 4 vC N C) (hD : Srcs V 1 vD N D)
    (hcall : ∀ W v39 v48, LiveB V W [some ⟨v39, 46, 4, 0 + N + 1, [] ++ C ++ [.string f.name, .int .i64 f.rank, .int .i64 f.lo, .int .i64 f.hi]⟩, none, some ⟨v48, 3, 1, 0 + N + 1, [] ++ D ++ [.int .i64 f.lo]⟩, none] → Calls Try.prog 76 #[v39, v48, .int .i64 P] W fun e W' => ∃ x y, e = .returned (.tuple #[x, y]) ∧ R x y W')
    (hRB : ∀ x y W', R x y W' → Below V.heap.size V W')
    (hQ : ∀ u32 u33 u34 u35 u36 u37 u38 u39 u40 u41 u42 u43 u44 u45 u46 u47 u48 u49 u50 u51 u52 u53 x y W', R x y W' → Q .normal ⟨#[z0, z1, z2, z3, z4, z5, z6, z7, z8, z9, z10, x, y, z13, z14, z15, z16, z17, z18, z19, z20, z21, z22, z23, z24, z25, z26, z27, z28, z29, z30, z31, u32, u33, u34, u35, u36, u37, u38, u39, u40, u41, u42, u43, u44, u45, u46, u47, u48, u49, u50, u51, u52, u53, z54, z55, z56, z57, z58, z59, z60, z61, z62, z63, z64, z65, z66, z67, z68, z69, z70, z71, z72], []⟩ W')
    {w : World} (hL : LiveB V w [some ⟨z36, 46, 4, 0 + N, [] ++ C⟩, some ⟨z38, 46, 4, 1, [.string f.name, .int .i64 f.rank, .int .i64 f.lo, .int .i64 f.hi]⟩, none, some ⟨z47, 3, 1, 1, [.int .i64 f.lo]⟩]) :
    wpAnyH Try.prog .any ops31_5 (NoPanic Q) S 10 #[true, true, true, true, true, true, false, false, true, true, false, true, true, true, true, false, true, true, false, false, false, false, false, false] ⟨#[z0, z1, z2, z3, z4, z5, z6, z7, z8, z9, z10, z11, z12, z13, z14, z15, z16, z17, z18, z19, z20, z21, z22, z23, z24, z25, z26, z27, z28, z29, z30, z31, z32, z33, z34, vC, z36, .agg #[.string f.name, .int .i64 f.rank, .int .i64 f.lo, .int .i64 f.hi], z38, z39, z40, z41, vD, z43, z44, z45, .int .i64 f.lo, z47, z48, z49, .int .i64 P, z51, z52, z53, z54, z55, z56, z57, z58, z59, z60, z61, z62, z63, z64, z65, z66, z67, z68, z69, z70, z71, z72], []⟩ w := by
  refine wpAnyH_ready (rs := [6, 7]) (by kernel_rfl) (by simp) ?_
  refine AllReadyH.cons (o := opN ops31_5 6) (by kernel_rfl) (fun K hK => ?_) ?_
  · obtain ⟨i4, hi4, hz40, hz41, hz42⟩ := info_parts Try.info46
    have hsrc := live_src hL.2 (k := 1) rfl (by simp [Value.oneCell'])
    refine step_append_live (by rfl) _ _ 40 (by rfl) hL 0 _ rfl i4 _ 40 Try.underlying40 hi4 hz40 hz41 hz42 rfl (Nat.succ_pos _) (by rfl) _ 1 _ (by rfl) hsrc (by simp only []; unfold maxLen; omega) (by simp only []; omega) ?_
    intro v' w' hL'
    have hL' := liveB_drop hL' 1
    exact hK.out _ _ (hS _ hL'.1) (fun _ => st31_0_3_5_6_14 hS hN hC hD hcall hRB hQ hL')
  refine AllReadyH.cons (o := opN ops31_5 7) (by kernel_rfl) (fun K hK => ?_) ?_
  · obtain ⟨o, e⟩ : ∃ o, o = opN ops31_5 7 := ⟨_, rfl⟩
    rw [← e]
    conv at e => rhs; whnf
    subst e
    go_simp
    have hL' := liveB_lit hL 2 #[] 3 1 0 (Nat.zero_le _) rfl
    exact hK.out _ _ (hS _ hL'.1) (fun _ => st31_0_3_5_7_14 hS hN hC hD hcall hRB hQ hL')
  exact AllReadyH.nil

set_option maxRecDepth 1000000 in
set_option maxHeartbeats 2000000 in
theorem st31_0_3_7_14 {Q : Exit → Act → World → Prop} {S : World → Prop} {R : Value → Value → World → Prop} {V : World} {vC vD : Value} {N : Nat} {C D : List Value} {f : Clm} {P : Int}
    {z0 z1 z2 z3 z4 z5 z6 z7 z8 z9 z10 z11 z12 z13 z14 z15 z16 z17 z18 z19 z20 z21 z22 z23 z24 z25 z26 z27 z28 z29 z30 z31 z32 z33 z34 z36 z38 z39 z40 z41 z43 z44 z45 z47 z48 z49 z51 z52 z53 z54 z55 z56 z57 z58 z59 z60 z61 z62 z63 z64 z65 z66 z67 z68 z69 z70 z71 z72 : Value}
    (hS : ∀ W', Below V.heap.size V W' → S W') (hN : N ≤ 8) (hC : Srcs V 4 vC N C) (hD : Srcs V 1 vD N D)
    (hcall : ∀ W v39 v48, LiveB V W [some ⟨v39, 46, 4, 0 + N + 1, [] ++ C ++ [.string f.name, .int .i64 f.rank, .int .i64 f.lo, .int .i64 f.hi]⟩, none, some ⟨v48, 3, 1, 0 + N + 1, [] ++ D ++ [.int .i64 f.lo]⟩, none] → Calls Try.prog 76 #[v39, v48, .int .i64 P] W fun e W' => ∃ x y, e = .returned (.tuple #[x, y]) ∧ R x y W')
    (hRB : ∀ x y W', R x y W' → Below V.heap.size V W')
    (hQ : ∀ u32 u33 u34 u35 u36 u37 u38 u39 u40 u41 u42 u43 u44 u45 u46 u47 u48 u49 u50 u51 u52 u53 x y W', R x y W' → Q .normal ⟨#[z0, z1, z2, z3, z4, z5, z6, z7, z8, z9, z10, x, y, z13, z14, z15, z16, z17, z18, z19, z20, z21, z22, z23, z24, z25, z26, z27, z28, z29, z30, z31, u32, u33, u34, u35, u36, u37, u38, u39, u40, u41, u42, u43, u44, u45, u46, u47, u48, u49, u50, u51, u52, u53, z54, z55, z56, z57, z58, z59, z60, z61, z62, z63, z64, z65, z66, z67, z68, z69, z70, z71, z72], []⟩ W')
    {w : World} (hL : LiveB V w [some ⟨z36, 46, 4, 0 + N, [] ++ C⟩, none, some ⟨z40, 3, 1, 0, []⟩, some ⟨z47, 3, 1, 1, [.int .i64 f.lo]⟩]) :
    wpAnyH Try.prog .any ops31_5 (NoPanic Q) S 10 #[true, true, true, true, true, false, false, true, true, true, false, true, true, true, true, false, true, true, false, false, false, false, false, false] ⟨#[z0, z1, z2, z3, z4, z5, z6, z7, z8, z9, z10, z11, z12, z13, z14, z15, z16, z17, z18, z19, z20, z21, z22, z23, z24, z25, z26, z27, z28, z29, z30, z31, z32, z33, z34, vC, z36, .agg #[.string f.name, .int .i64 f.rank, .int .i64 f.lo, .int .i64 f.hi], z38, z39, z40, z41, vD, z43, z44, z45, .int .i64 f.lo, z47, z48, z49, .int .i64 P, z51, z52, z53, z54, z55, z56, z57, z58, z59, z60, z61, z62, z63, z64, z65, z66, z67, z68, z69, z70, z71, z72], []⟩ w := by
  refine wpAnyH_ready (rs := [5]) (by kernel_rfl) (by simp) ?_
  refine AllReadyH.cons (o := opN ops31_5 5) (by kernel_rfl) (fun K hK => ?_) ?_
  · obtain ⟨o, e⟩ : ∃ o, o = opN ops31_5 5 := ⟨_, rfl⟩
    rw [← e]
    conv at e => rhs; whnf
    subst e
    go_simp
    have hL' := liveB_lit hL 1 #[.string f.name, .int .i64 f.rank, .int .i64 f.lo, .int .i64 f.hi] 46 4 1 (by unfold maxLen; omega) rfl
    exact hK.out _ _ (hS _ hL'.1) (fun _ => st31_0_3_5_7_14 hS hN hC hD hcall hRB hQ hL')
  exact AllReadyH.nil

set_option maxRecDepth 1000000 in
set_option maxHeartbeats 2000000 in
theorem st31_0_5_7_14 {Q : Exit → Act → World → Prop} {S : World → Prop} {R : Value → Value → World → Prop} {V : World} {vC vD : Value} {N : Nat} {C D : List Value} {f : Clm} {P : Int}
    {z0 z1 z2 z3 z4 z5 z6 z7 z8 z9 z10 z11 z12 z13 z14 z15 z16 z17 z18 z19 z20 z21 z22 z23 z24 z25 z26 z27 z28 z29 z30 z31 z32 z33 z34 z36 z38 z39 z40 z41 z43 z44 z45 z47 z48 z49 z51 z52 z53 z54 z55 z56 z57 z58 z59 z60 z61 z62 z63 z64 z65 z66 z67 z68 z69 z70 z71 z72 : Value}
    (hS : ∀ W', Below V.heap.size V W' → S W') (hN : N ≤ 8) (hC : Srcs V 4 vC N C) (hD : Srcs V 1 vD N D)
    (hcall : ∀ W v39 v48, LiveB V W [some ⟨v39, 46, 4, 0 + N + 1, [] ++ C ++ [.string f.name, .int .i64 f.rank, .int .i64 f.lo, .int .i64 f.hi]⟩, none, some ⟨v48, 3, 1, 0 + N + 1, [] ++ D ++ [.int .i64 f.lo]⟩, none] → Calls Try.prog 76 #[v39, v48, .int .i64 P] W fun e W' => ∃ x y, e = .returned (.tuple #[x, y]) ∧ R x y W')
    (hRB : ∀ x y W', R x y W' → Below V.heap.size V W')
    (hQ : ∀ u32 u33 u34 u35 u36 u37 u38 u39 u40 u41 u42 u43 u44 u45 u46 u47 u48 u49 u50 u51 u52 u53 x y W', R x y W' → Q .normal ⟨#[z0, z1, z2, z3, z4, z5, z6, z7, z8, z9, z10, x, y, z13, z14, z15, z16, z17, z18, z19, z20, z21, z22, z23, z24, z25, z26, z27, z28, z29, z30, z31, u32, u33, u34, u35, u36, u37, u38, u39, u40, u41, u42, u43, u44, u45, u46, u47, u48, u49, u50, u51, u52, u53, z54, z55, z56, z57, z58, z59, z60, z61, z62, z63, z64, z65, z66, z67, z68, z69, z70, z71, z72], []⟩ W')
    {w : World} (hL : LiveB V w [some ⟨z33, 46, 4, 0, []⟩, some ⟨z38, 46, 4, 1, [.string f.name, .int .i64 f.rank, .int .i64 f.lo, .int .i64 f.hi]⟩, some ⟨z40, 3, 1, 0, []⟩, some ⟨z47, 3, 1, 1, [.int .i64 f.lo]⟩]) :
    wpAnyH Try.prog .any ops31_5 (NoPanic Q) S 10 #[true, true, true, false, true, true, false, true, true, true, false, true, true, true, true, false, true, true, false, false, false, false, false, false] ⟨#[z0, z1, z2, z3, z4, z5, z6, z7, z8, z9, z10, z11, z12, z13, z14, z15, z16, z17, z18, z19, z20, z21, z22, z23, z24, z25, z26, z27, z28, z29, z30, z31, z32, z33, z34, vC, z36, .agg #[.string f.name, .int .i64 f.rank, .int .i64 f.lo, .int .i64 f.hi], z38, z39, z40, z41, vD, z43, z44, z45, .int .i64 f.lo, z47, z48, z49, .int .i64 P, z51, z52, z53, z54, z55, z56, z57, z58, z59, z60, z61, z62, z63, z64, z65, z66, z67, z68, z69, z70, z71, z72], []⟩ w := by
  refine wpAnyH_ready (rs := [3]) (by kernel_rfl) (by simp) ?_
  refine AllReadyH.cons (o := opN ops31_5 3) (by kernel_rfl) (fun K hK => ?_) ?_
  · obtain ⟨i4, hi4, hz40, hz41, hz42⟩ := info_parts Try.info46
    refine step_append_live (by rfl) _ _ 40 (by rfl) hL 0 _ rfl i4 _ 40 Try.underlying40 hi4 hz40 hz41 hz42 rfl (Nat.succ_pos _) (by rfl) vC N _ (by rfl) (srcs_keep hL hC) (by simp only []; unfold maxLen; omega) (by simp only []; omega) ?_
    intro v' w' hL'
    exact hK.out _ _ (hS _ hL'.1) (fun _ => st31_0_3_5_7_14 hS hN hC hD hcall hRB hQ hL')
  exact AllReadyH.nil

set_option maxRecDepth 1000000 in
set_option maxHeartbeats 2000000 in
theorem st31_0_3_5 {Q : Exit → Act → World → Prop} {S : World → Prop} {R : Value → Value → World → Prop} {V : World} {vC vD : Value} {N : Nat} {C D : List Value} {f : Clm} {P : Int}
    {z0 z1 z2 z3 z4 z5 z6 z7 z8 z9 z10 z11 z12 z13 z14 z15 z16 z17 z18 z19 z20 z21 z22 z23 z24 z25 z26 z27 z28 z29 z30 z31 z32 z33 z34 z36 z38 z39 z40 z41 z43 z44 z45 z47 z48 z49 z51 z52 z53 z54 z55 z56 z57 z58 z59 z60 z61 z62 z63 z64 z65 z66 z67 z68 z69 z70 z71 z72 : Value}
    (hS : ∀ W', Below V.heap.size V W' → S W') (hN : N ≤ 8) (hC : Srcs V 4 vC N C) (hD : Srcs V 1 vD N D)
    (hcall : ∀ W v39 v48, LiveB V W [some ⟨v39, 46, 4, 0 + N + 1, [] ++ C ++ [.string f.name, .int .i64 f.rank, .int .i64 f.lo, .int .i64 f.hi]⟩, none, some ⟨v48, 3, 1, 0 + N + 1, [] ++ D ++ [.int .i64 f.lo]⟩, none] → Calls Try.prog 76 #[v39, v48, .int .i64 P] W fun e W' => ∃ x y, e = .returned (.tuple #[x, y]) ∧ R x y W')
    (hRB : ∀ x y W', R x y W' → Below V.heap.size V W')
    (hQ : ∀ u32 u33 u34 u35 u36 u37 u38 u39 u40 u41 u42 u43 u44 u45 u46 u47 u48 u49 u50 u51 u52 u53 x y W', R x y W' → Q .normal ⟨#[z0, z1, z2, z3, z4, z5, z6, z7, z8, z9, z10, x, y, z13, z14, z15, z16, z17, z18, z19, z20, z21, z22, z23, z24, z25, z26, z27, z28, z29, z30, z31, u32, u33, u34, u35, u36, u37, u38, u39, u40, u41, u42, u43, u44, u45, u46, u47, u48, u49, u50, u51, u52, u53, z54, z55, z56, z57, z58, z59, z60, z61, z62, z63, z64, z65, z66, z67, z68, z69, z70, z71, z72], []⟩ W')
    {w : World} (hL : LiveB V w [some ⟨z36, 46, 4, 0 + N, [] ++ C⟩, some ⟨z38, 46, 4, 1, [.string f.name, .int .i64 f.rank, .int .i64 f.lo, .int .i64 f.hi]⟩, none, none]) :
    wpAnyH Try.prog .any ops31_5 (NoPanic Q) S 11 #[true, true, true, true, true, true, false, false, true, true, false, true, true, true, false, false, true, true, false, false, false, false, false, false] ⟨#[z0, z1, z2, z3, z4, z5, z6, z7, z8, z9, z10, z11, z12, z13, z14, z15, z16, z17, z18, z19, z20, z21, z22, z23, z24, z25, z26, z27, z28, z29, z30, z31, z32, z33, z34, vC, z36, .agg #[.string f.name, .int .i64 f.rank, .int .i64 f.lo, .int .i64 f.hi], z38, z39, z40, z41, vD, z43, z44, z45, .int .i64 f.lo, z47, z48, z49, .int .i64 P, z51, z52, z53, z54, z55, z56, z57, z58, z59, z60, z61, z62, z63, z64, z65, z66, z67, z68, z69, z70, z71, z72], []⟩ w := by
  refine wpAnyH_ready (rs := [6, 7, 14]) (by kernel_rfl) (by simp) ?_
  refine AllReadyH.cons (o := opN ops31_5 6) (by kernel_rfl) (fun K hK => ?_) ?_
  · obtain ⟨i4, hi4, hz40, hz41, hz42⟩ := info_parts Try.info46
    have hsrc := live_src hL.2 (k := 1) rfl (by simp [Value.oneCell'])
    refine step_append_live (by rfl) _ _ 40 (by rfl) hL 0 _ rfl i4 _ 40 Try.underlying40 hi4 hz40 hz41 hz42 rfl (Nat.succ_pos _) (by rfl) _ 1 _ (by rfl) hsrc (by simp only []; unfold maxLen; omega) (by simp only []; omega) ?_
    intro v' w' hL'
    have hL' := liveB_drop hL' 1
    exact hK.out _ _ (hS _ hL'.1) (fun _ => st31_0_3_5_6 hS hN hC hD hcall hRB hQ hL')
  refine AllReadyH.cons (o := opN ops31_5 7) (by kernel_rfl) (fun K hK => ?_) ?_
  · obtain ⟨o, e⟩ : ∃ o, o = opN ops31_5 7 := ⟨_, rfl⟩
    rw [← e]
    conv at e => rhs; whnf
    subst e
    go_simp
    have hL' := liveB_lit hL 2 #[] 3 1 0 (Nat.zero_le _) rfl
    exact hK.out _ _ (hS _ hL'.1) (fun _ => st31_0_3_5_7 hS hN hC hD hcall hRB hQ hL')
  refine AllReadyH.cons (o := opN ops31_5 14) (by kernel_rfl) (fun K hK => ?_) ?_
  · obtain ⟨o, e⟩ : ∃ o, o = opN ops31_5 14 := ⟨_, rfl⟩
    rw [← e]
    conv at e => rhs; whnf
    subst e
    go_simp
    have hL' := liveB_lit hL 3 #[.int .i64 f.lo] 3 1 1 (by unfold maxLen; omega) rfl
    exact hK.out _ _ (hS _ hL'.1) (fun _ => st31_0_3_5_14 hS hN hC hD hcall hRB hQ hL')
  exact AllReadyH.nil

set_option maxRecDepth 1000000 in
set_option maxHeartbeats 2000000 in
theorem st31_0_3_7 {Q : Exit → Act → World → Prop} {S : World → Prop} {R : Value → Value → World → Prop} {V : World} {vC vD : Value} {N : Nat} {C D : List Value} {f : Clm} {P : Int}
    {z0 z1 z2 z3 z4 z5 z6 z7 z8 z9 z10 z11 z12 z13 z14 z15 z16 z17 z18 z19 z20 z21 z22 z23 z24 z25 z26 z27 z28 z29 z30 z31 z32 z33 z34 z36 z38 z39 z40 z41 z43 z44 z45 z47 z48 z49 z51 z52 z53 z54 z55 z56 z57 z58 z59 z60 z61 z62 z63 z64 z65 z66 z67 z68 z69 z70 z71 z72 : Value}
    (hS : ∀ W', Below V.heap.size V W' → S W') (hN : N ≤ 8) (hC : Srcs V 4 vC N C) (hD : Srcs V 1 vD N D)
    (hcall : ∀ W v39 v48, LiveB V W [some ⟨v39, 46, 4, 0 + N + 1, [] ++ C ++ [.string f.name, .int .i64 f.rank, .int .i64 f.lo, .int .i64 f.hi]⟩, none, some ⟨v48, 3, 1, 0 + N + 1, [] ++ D ++ [.int .i64 f.lo]⟩, none] → Calls Try.prog 76 #[v39, v48, .int .i64 P] W fun e W' => ∃ x y, e = .returned (.tuple #[x, y]) ∧ R x y W')
    (hRB : ∀ x y W', R x y W' → Below V.heap.size V W')
    (hQ : ∀ u32 u33 u34 u35 u36 u37 u38 u39 u40 u41 u42 u43 u44 u45 u46 u47 u48 u49 u50 u51 u52 u53 x y W', R x y W' → Q .normal ⟨#[z0, z1, z2, z3, z4, z5, z6, z7, z8, z9, z10, x, y, z13, z14, z15, z16, z17, z18, z19, z20, z21, z22, z23, z24, z25, z26, z27, z28, z29, z30, z31, u32, u33, u34, u35, u36, u37, u38, u39, u40, u41, u42, u43, u44, u45, u46, u47, u48, u49, u50, u51, u52, u53, z54, z55, z56, z57, z58, z59, z60, z61, z62, z63, z64, z65, z66, z67, z68, z69, z70, z71, z72], []⟩ W')
    {w : World} (hL : LiveB V w [some ⟨z36, 46, 4, 0 + N, [] ++ C⟩, none, some ⟨z40, 3, 1, 0, []⟩, none]) :
    wpAnyH Try.prog .any ops31_5 (NoPanic Q) S 11 #[true, true, true, true, true, false, false, true, true, true, false, true, true, true, false, false, true, true, false, false, false, false, false, false] ⟨#[z0, z1, z2, z3, z4, z5, z6, z7, z8, z9, z10, z11, z12, z13, z14, z15, z16, z17, z18, z19, z20, z21, z22, z23, z24, z25, z26, z27, z28, z29, z30, z31, z32, z33, z34, vC, z36, .agg #[.string f.name, .int .i64 f.rank, .int .i64 f.lo, .int .i64 f.hi], z38, z39, z40, z41, vD, z43, z44, z45, .int .i64 f.lo, z47, z48, z49, .int .i64 P, z51, z52, z53, z54, z55, z56, z57, z58, z59, z60, z61, z62, z63, z64, z65, z66, z67, z68, z69, z70, z71, z72], []⟩ w := by
  refine wpAnyH_ready (rs := [5, 14]) (by kernel_rfl) (by simp) ?_
  refine AllReadyH.cons (o := opN ops31_5 5) (by kernel_rfl) (fun K hK => ?_) ?_
  · obtain ⟨o, e⟩ : ∃ o, o = opN ops31_5 5 := ⟨_, rfl⟩
    rw [← e]
    conv at e => rhs; whnf
    subst e
    go_simp
    have hL' := liveB_lit hL 1 #[.string f.name, .int .i64 f.rank, .int .i64 f.lo, .int .i64 f.hi] 46 4 1 (by unfold maxLen; omega) rfl
    exact hK.out _ _ (hS _ hL'.1) (fun _ => st31_0_3_5_7 hS hN hC hD hcall hRB hQ hL')
  refine AllReadyH.cons (o := opN ops31_5 14) (by kernel_rfl) (fun K hK => ?_) ?_
  · obtain ⟨o, e⟩ : ∃ o, o = opN ops31_5 14 := ⟨_, rfl⟩
    rw [← e]
    conv at e => rhs; whnf
    subst e
    go_simp
    have hL' := liveB_lit hL 3 #[.int .i64 f.lo] 3 1 1 (by unfold maxLen; omega) rfl
    exact hK.out _ _ (hS _ hL'.1) (fun _ => st31_0_3_7_14 hS hN hC hD hcall hRB hQ hL')
  exact AllReadyH.nil

set_option maxRecDepth 1000000 in
set_option maxHeartbeats 2000000 in
theorem st31_0_3_14 {Q : Exit → Act → World → Prop} {S : World → Prop} {R : Value → Value → World → Prop} {V : World} {vC vD : Value} {N : Nat} {C D : List Value} {f : Clm} {P : Int}
    {z0 z1 z2 z3 z4 z5 z6 z7 z8 z9 z10 z11 z12 z13 z14 z15 z16 z17 z18 z19 z20 z21 z22 z23 z24 z25 z26 z27 z28 z29 z30 z31 z32 z33 z34 z36 z38 z39 z40 z41 z43 z44 z45 z47 z48 z49 z51 z52 z53 z54 z55 z56 z57 z58 z59 z60 z61 z62 z63 z64 z65 z66 z67 z68 z69 z70 z71 z72 : Value}
    (hS : ∀ W', Below V.heap.size V W' → S W') (hN : N ≤ 8) (hC : Srcs V 4 vC N C) (hD : Srcs V 1 vD N D)
    (hcall : ∀ W v39 v48, LiveB V W [some ⟨v39, 46, 4, 0 + N + 1, [] ++ C ++ [.string f.name, .int .i64 f.rank, .int .i64 f.lo, .int .i64 f.hi]⟩, none, some ⟨v48, 3, 1, 0 + N + 1, [] ++ D ++ [.int .i64 f.lo]⟩, none] → Calls Try.prog 76 #[v39, v48, .int .i64 P] W fun e W' => ∃ x y, e = .returned (.tuple #[x, y]) ∧ R x y W')
    (hRB : ∀ x y W', R x y W' → Below V.heap.size V W')
    (hQ : ∀ u32 u33 u34 u35 u36 u37 u38 u39 u40 u41 u42 u43 u44 u45 u46 u47 u48 u49 u50 u51 u52 u53 x y W', R x y W' → Q .normal ⟨#[z0, z1, z2, z3, z4, z5, z6, z7, z8, z9, z10, x, y, z13, z14, z15, z16, z17, z18, z19, z20, z21, z22, z23, z24, z25, z26, z27, z28, z29, z30, z31, u32, u33, u34, u35, u36, u37, u38, u39, u40, u41, u42, u43, u44, u45, u46, u47, u48, u49, u50, u51, u52, u53, z54, z55, z56, z57, z58, z59, z60, z61, z62, z63, z64, z65, z66, z67, z68, z69, z70, z71, z72], []⟩ W')
    {w : World} (hL : LiveB V w [some ⟨z36, 46, 4, 0 + N, [] ++ C⟩, none, none, some ⟨z47, 3, 1, 1, [.int .i64 f.lo]⟩]) :
    wpAnyH Try.prog .any ops31_5 (NoPanic Q) S 11 #[true, true, true, true, true, false, false, false, true, true, false, true, true, true, true, false, true, true, false, false, false, false, false, false] ⟨#[z0, z1, z2, z3, z4, z5, z6, z7, z8, z9, z10, z11, z12, z13, z14, z15, z16, z17, z18, z19, z20, z21, z22, z23, z24, z25, z26, z27, z28, z29, z30, z31, z32, z33, z34, vC, z36, .agg #[.string f.name, .int .i64 f.rank, .int .i64 f.lo, .int .i64 f.hi], z38, z39, z40, z41, vD, z43, z44, z45, .int .i64 f.lo, z47, z48, z49, .int .i64 P, z51, z52, z53, z54, z55, z56, z57, z58, z59, z60, z61, z62, z63, z64, z65, z66, z67, z68, z69, z70, z71, z72], []⟩ w := by
  refine wpAnyH_ready (rs := [5, 7]) (by kernel_rfl) (by simp) ?_
  refine AllReadyH.cons (o := opN ops31_5 5) (by kernel_rfl) (fun K hK => ?_) ?_
  · obtain ⟨o, e⟩ : ∃ o, o = opN ops31_5 5 := ⟨_, rfl⟩
    rw [← e]
    conv at e => rhs; whnf
    subst e
    go_simp
    have hL' := liveB_lit hL 1 #[.string f.name, .int .i64 f.rank, .int .i64 f.lo, .int .i64 f.hi] 46 4 1 (by unfold maxLen; omega) rfl
    exact hK.out _ _ (hS _ hL'.1) (fun _ => st31_0_3_5_14 hS hN hC hD hcall hRB hQ hL')
  refine AllReadyH.cons (o := opN ops31_5 7) (by kernel_rfl) (fun K hK => ?_) ?_
  · obtain ⟨o, e⟩ : ∃ o, o = opN ops31_5 7 := ⟨_, rfl⟩
    rw [← e]
    conv at e => rhs; whnf
    subst e
    go_simp
    have hL' := liveB_lit hL 2 #[] 3 1 0 (Nat.zero_le _) rfl
    exact hK.out _ _ (hS _ hL'.1) (fun _ => st31_0_3_7_14 hS hN hC hD hcall hRB hQ hL')
  exact AllReadyH.nil

set_option maxRecDepth 1000000 in
set_option maxHeartbeats 2000000 in
theorem st31_0_5_7 {Q : Exit → Act → World → Prop} {S : World → Prop} {R : Value → Value → World → Prop} {V : World} {vC vD : Value} {N : Nat} {C D : List Value} {f : Clm} {P : Int}
    {z0 z1 z2 z3 z4 z5 z6 z7 z8 z9 z10 z11 z12 z13 z14 z15 z16 z17 z18 z19 z20 z21 z22 z23 z24 z25 z26 z27 z28 z29 z30 z31 z32 z33 z34 z36 z38 z39 z40 z41 z43 z44 z45 z47 z48 z49 z51 z52 z53 z54 z55 z56 z57 z58 z59 z60 z61 z62 z63 z64 z65 z66 z67 z68 z69 z70 z71 z72 : Value}
    (hS : ∀ W', Below V.heap.size V W' → S W') (hN : N ≤ 8) (hC : Srcs V 4 vC N C) (hD : Srcs V 1 vD N D)
    (hcall : ∀ W v39 v48, LiveB V W [some ⟨v39, 46, 4, 0 + N + 1, [] ++ C ++ [.string f.name, .int .i64 f.rank, .int .i64 f.lo, .int .i64 f.hi]⟩, none, some ⟨v48, 3, 1, 0 + N + 1, [] ++ D ++ [.int .i64 f.lo]⟩, none] → Calls Try.prog 76 #[v39, v48, .int .i64 P] W fun e W' => ∃ x y, e = .returned (.tuple #[x, y]) ∧ R x y W')
    (hRB : ∀ x y W', R x y W' → Below V.heap.size V W')
    (hQ : ∀ u32 u33 u34 u35 u36 u37 u38 u39 u40 u41 u42 u43 u44 u45 u46 u47 u48 u49 u50 u51 u52 u53 x y W', R x y W' → Q .normal ⟨#[z0, z1, z2, z3, z4, z5, z6, z7, z8, z9, z10, x, y, z13, z14, z15, z16, z17, z18, z19, z20, z21, z22, z23, z24, z25, z26, z27, z28, z29, z30, z31, u32, u33, u34, u35, u36, u37, u38, u39, u40, u41, u42, u43, u44, u45, u46, u47, u48, u49, u50, u51, u52, u53, z54, z55, z56, z57, z58, z59, z60, z61, z62, z63, z64, z65, z66, z67, z68, z69, z70, z71, z72], []⟩ W')
    {w : World} (hL : LiveB V w [some ⟨z33, 46, 4, 0, []⟩, some ⟨z38, 46, 4, 1, [.string f.name, .int .i64 f.rank, .int .i64 f.lo, .int .i64 f.hi]⟩, some ⟨z40, 3, 1, 0, []⟩, none]) :
    wpAnyH Try.prog .any ops31_5 (NoPanic Q) S 11 #[true, true, true, false, true, true, false, true, true, true, false, true, true, true, false, false, true, true, false, false, false, false, false, false] ⟨#[z0, z1, z2, z3, z4, z5, z6, z7, z8, z9, z10, z11, z12, z13, z14, z15, z16, z17, z18, z19, z20, z21, z22, z23, z24, z25, z26, z27, z28, z29, z30, z31, z32, z33, z34, vC, z36, .agg #[.string f.name, .int .i64 f.rank, .int .i64 f.lo, .int .i64 f.hi], z38, z39, z40, z41, vD, z43, z44, z45, .int .i64 f.lo, z47, z48, z49, .int .i64 P, z51, z52, z53, z54, z55, z56, z57, z58, z59, z60, z61, z62, z63, z64, z65, z66, z67, z68, z69, z70, z71, z72], []⟩ w := by
  refine wpAnyH_ready (rs := [3, 14]) (by kernel_rfl) (by simp) ?_
  refine AllReadyH.cons (o := opN ops31_5 3) (by kernel_rfl) (fun K hK => ?_) ?_
  · obtain ⟨i4, hi4, hz40, hz41, hz42⟩ := info_parts Try.info46
    refine step_append_live (by rfl) _ _ 40 (by rfl) hL 0 _ rfl i4 _ 40 Try.underlying40 hi4 hz40 hz41 hz42 rfl (Nat.succ_pos _) (by rfl) vC N _ (by rfl) (srcs_keep hL hC) (by simp only []; unfold maxLen; omega) (by simp only []; omega) ?_
    intro v' w' hL'
    exact hK.out _ _ (hS _ hL'.1) (fun _ => st31_0_3_5_7 hS hN hC hD hcall hRB hQ hL')
  refine AllReadyH.cons (o := opN ops31_5 14) (by kernel_rfl) (fun K hK => ?_) ?_
  · obtain ⟨o, e⟩ : ∃ o, o = opN ops31_5 14 := ⟨_, rfl⟩
    rw [← e]
    conv at e => rhs; whnf
    subst e
    go_simp
    have hL' := liveB_lit hL 3 #[.int .i64 f.lo] 3 1 1 (by unfold maxLen; omega) rfl
    exact hK.out _ _ (hS _ hL'.1) (fun _ => st31_0_5_7_14 hS hN hC hD hcall hRB hQ hL')
  exact AllReadyH.nil

set_option maxRecDepth 1000000 in
set_option maxHeartbeats 2000000 in
theorem st31_0_5_14 {Q : Exit → Act → World → Prop} {S : World → Prop} {R : Value → Value → World → Prop} {V : World} {vC vD : Value} {N : Nat} {C D : List Value} {f : Clm} {P : Int}
    {z0 z1 z2 z3 z4 z5 z6 z7 z8 z9 z10 z11 z12 z13 z14 z15 z16 z17 z18 z19 z20 z21 z22 z23 z24 z25 z26 z27 z28 z29 z30 z31 z32 z33 z34 z36 z38 z39 z40 z41 z43 z44 z45 z47 z48 z49 z51 z52 z53 z54 z55 z56 z57 z58 z59 z60 z61 z62 z63 z64 z65 z66 z67 z68 z69 z70 z71 z72 : Value}
    (hS : ∀ W', Below V.heap.size V W' → S W') (hN : N ≤ 8) (hC : Srcs V 4 vC N C) (hD : Srcs V 1 vD N D)
    (hcall : ∀ W v39 v48, LiveB V W [some ⟨v39, 46, 4, 0 + N + 1, [] ++ C ++ [.string f.name, .int .i64 f.rank, .int .i64 f.lo, .int .i64 f.hi]⟩, none, some ⟨v48, 3, 1, 0 + N + 1, [] ++ D ++ [.int .i64 f.lo]⟩, none] → Calls Try.prog 76 #[v39, v48, .int .i64 P] W fun e W' => ∃ x y, e = .returned (.tuple #[x, y]) ∧ R x y W')
    (hRB : ∀ x y W', R x y W' → Below V.heap.size V W')
    (hQ : ∀ u32 u33 u34 u35 u36 u37 u38 u39 u40 u41 u42 u43 u44 u45 u46 u47 u48 u49 u50 u51 u52 u53 x y W', R x y W' → Q .normal ⟨#[z0, z1, z2, z3, z4, z5, z6, z7, z8, z9, z10, x, y, z13, z14, z15, z16, z17, z18, z19, z20, z21, z22, z23, z24, z25, z26, z27, z28, z29, z30, z31, u32, u33, u34, u35, u36, u37, u38, u39, u40, u41, u42, u43, u44, u45, u46, u47, u48, u49, u50, u51, u52, u53, z54, z55, z56, z57, z58, z59, z60, z61, z62, z63, z64, z65, z66, z67, z68, z69, z70, z71, z72], []⟩ W')
    {w : World} (hL : LiveB V w [some ⟨z33, 46, 4, 0, []⟩, some ⟨z38, 46, 4, 1, [.string f.name, .int .i64 f.rank, .int .i64 f.lo, .int .i64 f.hi]⟩, none, some ⟨z47, 3, 1, 1, [.int .i64 f.lo]⟩]) :
    wpAnyH Try.prog .any ops31_5 (NoPanic Q) S 11 #[true, true, true, false, true, true, false, false, true, true, false, true, true, true, true, false, true, true, false, false, false, false, false, false] ⟨#[z0, z1, z2, z3, z4, z5, z6, z7, z8, z9, z10, z11, z12, z13, z14, z15, z16, z17, z18, z19, z20, z21, z22, z23, z24, z25, z26, z27, z28, z29, z30, z31, z32, z33, z34, vC, z36, .agg #[.string f.name, .int .i64 f.rank, .int .i64 f.lo, .int .i64 f.hi], z38, z39, z40, z41, vD, z43, z44, z45, .int .i64 f.lo, z47, z48, z49, .int .i64 P, z51, z52, z53, z54, z55, z56, z57, z58, z59, z60, z61, z62, z63, z64, z65, z66, z67, z68, z69, z70, z71, z72], []⟩ w := by
  refine wpAnyH_ready (rs := [3, 7]) (by kernel_rfl) (by simp) ?_
  refine AllReadyH.cons (o := opN ops31_5 3) (by kernel_rfl) (fun K hK => ?_) ?_
  · obtain ⟨i4, hi4, hz40, hz41, hz42⟩ := info_parts Try.info46
    refine step_append_live (by rfl) _ _ 40 (by rfl) hL 0 _ rfl i4 _ 40 Try.underlying40 hi4 hz40 hz41 hz42 rfl (Nat.succ_pos _) (by rfl) vC N _ (by rfl) (srcs_keep hL hC) (by simp only []; unfold maxLen; omega) (by simp only []; omega) ?_
    intro v' w' hL'
    exact hK.out _ _ (hS _ hL'.1) (fun _ => st31_0_3_5_14 hS hN hC hD hcall hRB hQ hL')
  refine AllReadyH.cons (o := opN ops31_5 7) (by kernel_rfl) (fun K hK => ?_) ?_
  · obtain ⟨o, e⟩ : ∃ o, o = opN ops31_5 7 := ⟨_, rfl⟩
    rw [← e]
    conv at e => rhs; whnf
    subst e
    go_simp
    have hL' := liveB_lit hL 2 #[] 3 1 0 (Nat.zero_le _) rfl
    exact hK.out _ _ (hS _ hL'.1) (fun _ => st31_0_5_7_14 hS hN hC hD hcall hRB hQ hL')
  exact AllReadyH.nil

set_option maxRecDepth 1000000 in
set_option maxHeartbeats 2000000 in
theorem st31_0_7_14 {Q : Exit → Act → World → Prop} {S : World → Prop} {R : Value → Value → World → Prop} {V : World} {vC vD : Value} {N : Nat} {C D : List Value} {f : Clm} {P : Int}
    {z0 z1 z2 z3 z4 z5 z6 z7 z8 z9 z10 z11 z12 z13 z14 z15 z16 z17 z18 z19 z20 z21 z22 z23 z24 z25 z26 z27 z28 z29 z30 z31 z32 z33 z34 z36 z38 z39 z40 z41 z43 z44 z45 z47 z48 z49 z51 z52 z53 z54 z55 z56 z57 z58 z59 z60 z61 z62 z63 z64 z65 z66 z67 z68 z69 z70 z71 z72 : Value}
    (hS : ∀ W', Below V.heap.size V W' → S W') (hN : N ≤ 8) (hC : Srcs V 4 vC N C) (hD : Srcs V 1 vD N D)
    (hcall : ∀ W v39 v48, LiveB V W [some ⟨v39, 46, 4, 0 + N + 1, [] ++ C ++ [.string f.name, .int .i64 f.rank, .int .i64 f.lo, .int .i64 f.hi]⟩, none, some ⟨v48, 3, 1, 0 + N + 1, [] ++ D ++ [.int .i64 f.lo]⟩, none] → Calls Try.prog 76 #[v39, v48, .int .i64 P] W fun e W' => ∃ x y, e = .returned (.tuple #[x, y]) ∧ R x y W')
    (hRB : ∀ x y W', R x y W' → Below V.heap.size V W')
    (hQ : ∀ u32 u33 u34 u35 u36 u37 u38 u39 u40 u41 u42 u43 u44 u45 u46 u47 u48 u49 u50 u51 u52 u53 x y W', R x y W' → Q .normal ⟨#[z0, z1, z2, z3, z4, z5, z6, z7, z8, z9, z10, x, y, z13, z14, z15, z16, z17, z18, z19, z20, z21, z22, z23, z24, z25, z26, z27, z28, z29, z30, z31, u32, u33, u34, u35, u36, u37, u38, u39, u40, u41, u42, u43, u44, u45, u46, u47, u48, u49, u50, u51, u52, u53, z54, z55, z56, z57, z58, z59, z60, z61, z62, z63, z64, z65, z66, z67, z68, z69, z70, z71, z72], []⟩ W')
    {w : World} (hL : LiveB V w [some ⟨z33, 46, 4, 0, []⟩, none, some ⟨z40, 3, 1, 0, []⟩, some ⟨z47, 3, 1, 1, [.int .i64 f.lo]⟩]) :
    wpAnyH Try.prog .any ops31_5 (NoPanic Q) S 11 #[true, true, true, false, true, false, false, true, true, true, false, true, true, true, true, false, true, true, false, false, false, false, false, false] ⟨#[z0, z1, z2, z3, z4, z5, z6, z7, z8, z9, z10, z11, z12, z13, z14, z15, z16, z17, z18, z19, z20, z21, z22, z23, z24, z25, z26, z27, z28, z29, z30, z31, z32, z33, z34, vC, z36, .agg #[.string f.name, .int .i64 f.rank, .int .i64 f.lo, .int .i64 f.hi], z38, z39, z40, z41, vD, z43, z44, z45, .int .i64 f.lo, z47, z48, z49, .int .i64 P, z51, z52, z53, z54, z55, z56, z57, z58, z59, z60, z61, z62, z63, z64, z65, z66, z67, z68, z69, z70, z71, z72], []⟩ w := by
  refine wpAnyH_ready (rs := [3, 5]) (by kernel_rfl) (by simp) ?_
  refine AllReadyH.cons (o := opN ops31_5 3) (by kernel_rfl) (fun K hK => ?_) ?_
  · obtain ⟨i4, hi4, hz40, hz41, hz42⟩ := info_parts Try.info46
    refine step_append_live (by rfl) _ _ 40 (by rfl) hL 0 _ rfl i4 _ 40 Try.underlying40 hi4 hz40 hz41 hz42 rfl (Nat.succ_pos _) (by rfl) vC N _ (by rfl) (srcs_keep hL hC) (by simp only []; unfold maxLen; omega) (by simp only []; omega) ?_
    intro v' w' hL'
    exact hK.out _ _ (hS _ hL'.1) (fun _ => st31_0_3_7_14 hS hN hC hD hcall hRB hQ hL')
  refine AllReadyH.cons (o := opN ops31_5 5) (by kernel_rfl) (fun K hK => ?_) ?_
  · obtain ⟨o, e⟩ : ∃ o, o = opN ops31_5 5 := ⟨_, rfl⟩
    rw [← e]
    conv at e => rhs; whnf
    subst e
    go_simp
    have hL' := liveB_lit hL 1 #[.string f.name, .int .i64 f.rank, .int .i64 f.lo, .int .i64 f.hi] 46 4 1 (by unfold maxLen; omega) rfl
    exact hK.out _ _ (hS _ hL'.1) (fun _ => st31_0_5_7_14 hS hN hC hD hcall hRB hQ hL')
  exact AllReadyH.nil

set_option maxRecDepth 1000000 in
set_option maxHeartbeats 2000000 in
theorem st31_5_7_14 {Q : Exit → Act → World → Prop} {S : World → Prop} {R : Value → Value → World → Prop} {V : World} {vC vD : Value} {N : Nat} {C D : List Value} {f : Clm} {P : Int}
    {z0 z1 z2 z3 z4 z5 z6 z7 z8 z9 z10 z11 z12 z13 z14 z15 z16 z17 z18 z19 z20 z21 z22 z23 z24 z25 z26 z27 z28 z29 z30 z31 z32 z33 z34 z36 z38 z39 z40 z41 z43 z44 z45 z47 z48 z49 z51 z52 z53 z54 z55 z56 z57 z58 z59 z60 z61 z62 z63 z64 z65 z66 z67 z68 z69 z70 z71 z72 : Value}
    (hS : ∀ W', Below V.heap.size V W' → S W') (hN : N ≤ 8) (hC : Srcs V 4 vC N C) (hD : Srcs V 1 vD N D)
    (hcall : ∀ W v39 v48, LiveB V W [some ⟨v39, 46, 4, 0 + N + 1, [] ++ C ++ [.string f.name, .int .i64 f.rank, .int .i64 f.lo, .int .i64 f.hi]⟩, none, some ⟨v48, 3, 1, 0 + N + 1, [] ++ D ++ [.int .i64 f.lo]⟩, none] → Calls Try.prog 76 #[v39, v48, .int .i64 P] W fun e W' => ∃ x y, e = .returned (.tuple #[x, y]) ∧ R x y W')
    (hRB : ∀ x y W', R x y W' → Below V.heap.size V W')
    (hQ : ∀ u32 u33 u34 u35 u36 u37 u38 u39 u40 u41 u42 u43 u44 u45 u46 u47 u48 u49 u50 u51 u52 u53 x y W', R x y W' → Q .normal ⟨#[z0, z1, z2, z3, z4, z5, z6, z7, z8, z9, z10, x, y, z13, z14, z15, z16, z17, z18, z19, z20, z21, z22, z23, z24, z25, z26, z27, z28, z29, z30, z31, u32, u33, u34, u35, u36, u37, u38, u39, u40, u41, u42, u43, u44, u45, u46, u47, u48, u49, u50, u51, u52, u53, z54, z55, z56, z57, z58, z59, z60, z61, z62, z63, z64, z65, z66, z67, z68, z69, z70, z71, z72], []⟩ W')
    {w : World} (hL : LiveB V w [none, some ⟨z38, 46, 4, 1, [.string f.name, .int .i64 f.rank, .int .i64 f.lo, .int .i64 f.hi]⟩, some ⟨z40, 3, 1, 0, []⟩, some ⟨z47, 3, 1, 1, [.int .i64 f.lo]⟩]) :
    wpAnyH Try.prog .any ops31_5 (NoPanic Q) S 11 #[false, true, true, false, true, true, false, true, true, true, false, true, true, true, true, false, true, true, false, false, false, false, false, false] ⟨#[z0, z1, z2, z3, z4, z5, z6, z7, z8, z9, z10, z11, z12, z13, z14, z15, z16, z17, z18, z19, z20, z21, z22, z23, z24, z25, z26, z27, z28, z29, z30, z31, z32, z33, z34, vC, z36, .agg #[.string f.name, .int .i64 f.rank, .int .i64 f.lo, .int .i64 f.hi], z38, z39, z40, z41, vD, z43, z44, z45, .int .i64 f.lo, z47, z48, z49, .int .i64 P, z51, z52, z53, z54, z55, z56, z57, z58, z59, z60, z61, z62, z63, z64, z65, z66, z67, z68, z69, z70, z71, z72], []⟩ w := by
  refine wpAnyH_ready (rs := [0]) (by kernel_rfl) (by simp) ?_
  refine AllReadyH.cons (o := opN ops31_5 0) (by kernel_rfl) (fun K hK => ?_) ?_
  · obtain ⟨o, e⟩ : ∃ o, o = opN ops31_5 0 := ⟨_, rfl⟩
    rw [← e]
    conv at e => rhs; whnf
    subst e
    go_simp
    have hL' := liveB_lit hL 0 #[] 46 4 0 (Nat.zero_le _) rfl
    exact hK.out _ _ (hS _ hL'.1) (fun _ => st31_0_5_7_14 hS hN hC hD hcall hRB hQ hL')
  exact AllReadyH.nil

set_option maxRecDepth 1000000 in
set_option maxHeartbeats 2000000 in
theorem st31_0_3 {Q : Exit → Act → World → Prop} {S : World → Prop} {R : Value → Value → World → Prop} {V : World} {vC vD : Value} {N : Nat} {C D : List Value} {f : Clm} {P : Int}
    {z0 z1 z2 z3 z4 z5 z6 z7 z8 z9 z10 z11 z12 z13 z14 z15 z16 z17 z18 z19 z20 z21 z22 z23 z24 z25 z26 z27 z28 z29 z30 z31 z32 z33 z34 z36 z38 z39 z40 z41 z43 z44 z45 z47 z48 z49 z51 z52 z53 z54 z55 z56 z57 z58 z59 z60 z61 z62 z63 z64 z65 z66 z67 z68 z69 z70 z71 z72 : Value}
    (hS : ∀ W', Below V.heap.size V W' → S W') (hN : N ≤ 8) (hC : Srcs V 4 vC N C) (hD : Srcs V 1 vD N D)
    (hcall : ∀ W v39 v48, LiveB V W [some ⟨v39, 46, 4, 0 + N + 1, [] ++ C ++ [.string f.name, .int .i64 f.rank, .int .i64 f.lo, .int .i64 f.hi]⟩, none, some ⟨v48, 3, 1, 0 + N + 1, [] ++ D ++ [.int .i64 f.lo]⟩, none] → Calls Try.prog 76 #[v39, v48, .int .i64 P] W fun e W' => ∃ x y, e = .returned (.tuple #[x, y]) ∧ R x y W')
    (hRB : ∀ x y W', R x y W' → Below V.heap.size V W')
    (hQ : ∀ u32 u33 u34 u35 u36 u37 u38 u39 u40 u41 u42 u43 u44 u45 u46 u47 u48 u49 u50 u51 u52 u53 x y W', R x y W' → Q .normal ⟨#[z0, z1, z2, z3, z4, z5, z6, z7, z8, z9, z10, x, y, z13, z14, z15, z16, z17, z18, z19, z20, z21, z22, z23, z24, z25, z26, z27, z28, z29, z30, z31, u32, u33, u34, u35, u36, u37, u38, u39, u40, u41, u42, u43, u44, u45, u46, u47, u48, u49, u50, u51, u52, u53, z54, z55, z56, z57, z58, z59, z60, z61, z62, z63, z64, z65, z66, z67, z68, z69, z70, z71, z72], []⟩ W')
    {w : World} (hL : LiveB V w [some ⟨z36, 46, 4, 0 + N, [] ++ C⟩, none, none, none]) :
    wpAnyH Try.prog .any ops31_5 (NoPanic Q) S 12 #[true, true, true, true, true, false, false, false, true, true, false, true, true, true, false, false, true, true, false, false, false, false, false, false] ⟨#[z0, z1, z2, z3, z4, z5, z6, z7, z8, z9, z10, z11, z12, z13, z14, z15, z16, z17, z18, z19, z20, z21, z22, z23, z24, z25, z26, z27, z28, z29, z30, z31, z32, z33, z34, vC, z36, .agg #[.string f.name, .int .i64 f.rank, .int .i64 f.lo, .int .i64 f.hi], z38, z39, z40, z41, vD, z43, z44, z45, .int .i64 f.lo, z47, z48, z49, .int .i64 P, z51, z52, z53, z54, z55, z56, z57, z58, z59, z60, z61, z62, z63, z64, z65, z66, z67, z68, z69, z70, z71, z72], []⟩ w := by
  refine wpAnyH_ready (rs := [5, 7, 14]) (by kernel_rfl) (by simp) ?_
  refine AllReadyH.cons (o := opN ops31_5 5) (by kernel_rfl) (fun K hK => ?_) ?_
  · obtain ⟨o, e⟩ : ∃ o, o = opN ops31_5 5 := ⟨_, rfl⟩
    rw [← e]
    conv at e => rhs; whnf
    subst e
    go_simp
    have hL' := liveB_lit hL 1 #[.string f.name, .int .i64 f.rank, .int .i64 f.lo, .int .i64 f.hi] 46 4 1 (by unfold maxLen; omega) rfl
    exact hK.out _ _ (hS _ hL'.1) (fun _ => st31_0_3_5 hS hN hC hD hcall hRB hQ hL')
  refine AllReadyH.cons (o := opN ops31_5 7) (by kernel_rfl) (fun K hK => ?_) ?_
  · obtain ⟨o, e⟩ : ∃ o, o = opN ops31_5 7 := ⟨_, rfl⟩
    rw [← e]
    conv at e => rhs; whnf
    subst e
    go_simp
    have hL' := liveB_lit hL 2 #[] 3 1 0 (Nat.zero_le _) rfl
    exact hK.out _ _ (hS _ hL'.1) (fun _ => st31_0_3_7 hS hN hC hD hcall hRB hQ hL')
  refine AllReadyH.cons (o := opN ops31_5 14) (by kernel_rfl) (fun K hK => ?_) ?_
  · obtain ⟨o, e⟩ : ∃ o, o = opN ops31_5 14 := ⟨_, rfl⟩
    rw [← e]
    conv at e => rhs; whnf
    subst e
    go_simp
    have hL' := liveB_lit hL 3 #[.int .i64 f.lo] 3 1 1 (by unfold maxLen; omega) rfl
    exact hK.out _ _ (hS _ hL'.1) (fun _ => st31_0_3_14 hS hN hC hD hcall hRB hQ hL')
  exact AllReadyH.nil

set_option maxRecDepth 1000000 in
set_option maxHeartbeats 2000000 in
theorem st31_0_5 {Q : Exit → Act → World → Prop} {S : World → Prop} {R : Value → Value → World → Prop} {V : World} {vC vD : Value} {N : Nat} {C D : List Value} {f : Clm} {P : Int}
    {z0 z1 z2 z3 z4 z5 z6 z7 z8 z9 z10 z11 z12 z13 z14 z15 z16 z17 z18 z19 z20 z21 z22 z23 z24 z25 z26 z27 z28 z29 z30 z31 z32 z33 z34 z36 z38 z39 z40 z41 z43 z44 z45 z47 z48 z49 z51 z52 z53 z54 z55 z56 z57 z58 z59 z60 z61 z62 z63 z64 z65 z66 z67 z68 z69 z70 z71 z72 : Value}
    (hS : ∀ W', Below V.heap.size V W' → S W') (hN : N ≤ 8) (hC : Srcs V 4 vC N C) (hD : Srcs V 1 vD N D)
    (hcall : ∀ W v39 v48, LiveB V W [some ⟨v39, 46, 4, 0 + N + 1, [] ++ C ++ [.string f.name, .int .i64 f.rank, .int .i64 f.lo, .int .i64 f.hi]⟩, none, some ⟨v48, 3, 1, 0 + N + 1, [] ++ D ++ [.int .i64 f.lo]⟩, none] → Calls Try.prog 76 #[v39, v48, .int .i64 P] W fun e W' => ∃ x y, e = .returned (.tuple #[x, y]) ∧ R x y W')
    (hRB : ∀ x y W', R x y W' → Below V.heap.size V W')
    (hQ : ∀ u32 u33 u34 u35 u36 u37 u38 u39 u40 u41 u42 u43 u44 u45 u46 u47 u48 u49 u50 u51 u52 u53 x y W', R x y W' → Q .normal ⟨#[z0, z1, z2, z3, z4, z5, z6, z7, z8, z9, z10, x, y, z13, z14, z15, z16, z17, z18, z19, z20, z21, z22, z23, z24, z25, z26, z27, z28, z29, z30, z31, u32, u33, u34, u35, u36, u37, u38, u39, u40, u41, u42, u43, u44, u45, u46, u47, u48, u49, u50, u51, u52, u53, z54, z55, z56, z57, z58, z59, z60, z61, z62, z63, z64, z65, z66, z67, z68, z69, z70, z71, z72], []⟩ W')
    {w : World} (hL : LiveB V w [some ⟨z33, 46, 4, 0, []⟩, some ⟨z38, 46, 4, 1, [.string f.name, .int .i64 f.rank, .int .i64 f.lo, .int .i64 f.hi]⟩, none, none]) :
    wpAnyH Try.prog .any ops31_5 (NoPanic Q) S 12 #[true, true, true, false, true, true, false, false, true, true, false, true, true, true, false, false, true, true, false, false, false, false, false, false] ⟨#[z0, z1, z2, z3, z4, z5, z6, z7, z8, z9, z10, z11, z12, z13, z14, z15, z16, z17, z18, z19, z20, z21, z22, z23, z24, z25, z26, z27, z28, z29, z30, z31, z32, z33, z34, vC, z36, .agg #[.string f.name, .int .i64 f.rank, .int .i64 f.lo, .int .i64 f.hi], z38, z39, z40, z41, vD, z43, z44, z45, .int .i64 f.lo, z47, z48, z49, .int .i64 P, z51, z52, z53, z54, z55, z56, z57, z58, z59, z60, z61, z62, z63, z64, z65, z66, z67, z68, z69, z70, z71, z72], []⟩ w := by
  refine wpAnyH_ready (rs := [3, 7, 14]) (by kernel_rfl) (by simp) ?_
  refine AllReadyH.cons (o := opN ops31_5 3) (by kernel_rfl) (fun K hK => ?_) ?_
  · obtain ⟨i4, hi4, hz40, hz41, hz42⟩ := info_parts Try.info46
    refine step_append_live (by rfl) _ _ 40 (by rfl) hL 0 _ rfl i4 _ 40 Try.underlying40 hi4 hz40 hz41 hz42 rfl (Nat.succ_pos _) (by rfl) vC N _ (by rfl) (srcs_keep hL hC) (by simp only []; unfold maxLen; omega) (by simp only []; omega) ?_
    intro v' w' hL'
    exact hK.out _ _ (hS _ hL'.1) (fun _ => st31_0_3_5 hS hN hC hD hcall hRB hQ hL')
  refine AllReadyH.cons (o := opN ops31_5 7) (by kernel_rfl) (fun K hK => ?_) ?_
  · obtain ⟨o, e⟩ : ∃ o, o = opN ops31_5 7 := ⟨_, rfl⟩
    rw [← e]
    conv at e => rhs; whnf
    subst e
    go_simp
    have hL' := liveB_lit hL 2 #[] 3 1 0 (Nat.zero_le _) rfl
    exact hK.out _ _ (hS _ hL'.1) (fun _ => st31_0_5_7 hS hN hC hD hcall hRB hQ hL')
  refine AllReadyH.cons (o := opN ops31_5 14) (by kernel_rfl) (fun K hK => ?_) ?_
  · obtain ⟨o, e⟩ : ∃ o, o = opN ops31_5 14 := ⟨_, rfl⟩
    rw [← e]
    conv at e => rhs; whnf
    subst e
    go_simp
    have hL' := liveB_lit hL 3 #[.int .i64 f.lo] 3 1 1 (by unfold maxLen; omega) rfl
    exact hK.out _ _ (hS _ hL'.1) (fun _ => st31_0_5_14 hS hN hC hD hcall hRB hQ hL')
  exact AllReadyH.nil

set_option maxRecDepth 1000000 in
set_option maxHeartbeats 2000000 in
theorem st31_0_7 {Q : Exit → Act → World → Prop} {S : World → Prop} {R : Value → Value → World → Prop} {V : World} {vC vD : Value} {N : Nat} {C D : List Value} {f : Clm} {P : Int}
    {z0 z1 z2 z3 z4 z5 z6 z7 z8 z9 z10 z11 z12 z13 z14 z15 z16 z17 z18 z19 z20 z21 z22 z23 z24 z25 z26 z27 z28 z29 z30 z31 z32 z33 z34 z36 z38 z39 z40 z41 z43 z44 z45 z47 z48 z49 z51 z52 z53 z54 z55 z56 z57 z58 z59 z60 z61 z62 z63 z64 z65 z66 z67 z68 z69 z70 z71 z72 : Value}
    (hS : ∀ W', Below V.heap.size V W' → S W') (hN : N ≤ 8) (hC : Srcs V 4 vC N C) (hD : Srcs V 1 vD N D)
    (hcall : ∀ W v39 v48, LiveB V W [some ⟨v39, 46, 4, 0 + N + 1, [] ++ C ++ [.string f.name, .int .i64 f.rank, .int .i64 f.lo, .int .i64 f.hi]⟩, none, some ⟨v48, 3, 1, 0 + N + 1, [] ++ D ++ [.int .i64 f.lo]⟩, none] → Calls Try.prog 76 #[v39, v48, .int .i64 P] W fun e W' => ∃ x y, e = .returned (.tuple #[x, y]) ∧ R x y W')
    (hRB : ∀ x y W', R x y W' → Below V.heap.size V W')
    (hQ : ∀ u32 u33 u34 u35 u36 u37 u38 u39 u40 u41 u42 u43 u44 u45 u46 u47 u48 u49 u50 u51 u52 u53 x y W', R x y W' → Q .normal ⟨#[z0, z1, z2, z3, z4, z5, z6, z7, z8, z9, z10, x, y, z13, z14, z15, z16, z17, z18, z19, z20, z21, z22, z23, z24, z25, z26, z27, z28, z29, z30, z31, u32, u33, u34, u35, u36, u37, u38, u39, u40, u41, u42, u43, u44, u45, u46, u47, u48, u49, u50, u51, u52, u53, z54, z55, z56, z57, z58, z59, z60, z61, z62, z63, z64, z65, z66, z67, z68, z69, z70, z71, z72], []⟩ W')
    {w : World} (hL : LiveB V w [some ⟨z33, 46, 4, 0, []⟩, none, some ⟨z40, 3, 1, 0, []⟩, none]) :
    wpAnyH Try.prog .any ops31_5 (NoPanic Q) S 12 #[true, true, true, false, true, false, false, true, true, true, false, true, true, true, false, false, true, true, false, false, false, false, false, false] ⟨#[z0, z1, z2, z3, z4, z5, z6, z7, z8, z9, z10, z11, z12, z13, z14, z15, z16, z17, z18, z19, z20, z21, z22, z23, z24, z25, z26, z27, z28, z29, z30, z31, z32, z33, z34, vC, z36, .agg #[.string f.name, .int .i64 f.rank, .int .i64 f.lo, .int .i64 f.hi], z38, z39, z40, z41, vD, z43, z44, z45, .int .i64 f.lo, z47, z48, z49, .int .i64 P, z51, z52, z53, z54, z55, z56, z57, z58, z59, z60, z61, z62, z63, z64, z65, z66, z67, z68, z69, z70, z71, z72], []⟩ w := by
  refine wpAnyH_ready (rs := [3, 5, 14]) (by kernel_rfl) (by simp) ?_
  refine AllReadyH.cons (o := opN ops31_5 3) (by kernel_rfl) (fun K hK => ?_) ?_
  · obtain ⟨i4, hi4, hz40, hz41, hz42⟩ := info_parts Try.info46
    refine step_append_live (by rfl) _ _ 40 (by rfl) hL 0 _ rfl i4 _ 40 Try.underlying40 hi4 hz40 hz41 hz42 rfl (Nat.succ_pos _) (by rfl) vC N _ (by rfl) (srcs_keep hL hC) (by simp only []; unfold maxLen; omega) (by simp only []; omega) ?_
    intro v' w' hL'
    exact hK.out _ _ (hS _ hL'.1) (fun _ => st31_0_3_7 hS hN hC hD hcall hRB hQ hL')
  refine AllReadyH.cons (o := opN ops31_5 5) (by kernel_rfl) (fun K hK => ?_) ?_
  · obtain ⟨o, e⟩ : ∃ o, o = opN ops31_5 5 := ⟨_, rfl⟩
    rw [← e]
    conv at e => rhs; whnf
    subst e
    go_simp
    have hL' := liveB_lit hL 1 #[.string f.name, .int .i64 f.rank, .int .i64 f.lo, .int .i64 f.hi] 46 4 1 (by unfold maxLen; omega) rfl
    exact hK.out _ _ (hS _ hL'.1) (fun _ => st31_0_5_7 hS hN hC hD hcall hRB hQ hL')
  refine AllReadyH.cons (o := opN ops31_5 14) (by kernel_rfl) (fun K hK => ?_) ?_
  · obtain ⟨o, e⟩ : ∃ o, o = opN ops31_5 14 := ⟨_, rfl⟩
    rw [← e]
    conv at e => rhs; whnf
    subst e
    go_simp
    have hL' := liveB_lit hL 3 #[.int .i64 f.lo] 3 1 1 (by unfold maxLen; omega) rfl
    exact hK.out _ _ (hS _ hL'.1) (fun _ => st31_0_7_14 hS hN hC hD hcall hRB hQ hL')
  exact AllReadyH.nil

set_option maxRecDepth 1000000 in
set_option maxHeartbeats 2000000 in
theorem st31_0_14 {Q : Exit → Act → World → Prop} {S : World → Prop} {R : Value → Value → World → Prop} {V : World} {vC vD : Value} {N : Nat} {C D : List Value} {f : Clm} {P : Int}
    {z0 z1 z2 z3 z4 z5 z6 z7 z8 z9 z10 z11 z12 z13 z14 z15 z16 z17 z18 z19 z20 z21 z22 z23 z24 z25 z26 z27 z28 z29 z30 z31 z32 z33 z34 z36 z38 z39 z40 z41 z43 z44 z45 z47 z48 z49 z51 z52 z53 z54 z55 z56 z57 z58 z59 z60 z61 z62 z63 z64 z65 z66 z67 z68 z69 z70 z71 z72 : Value}
    (hS : ∀ W', Below V.heap.size V W' → S W') (hN : N ≤ 8) (hC : Srcs V 4 vC N C) (hD : Srcs V 1 vD N D)
    (hcall : ∀ W v39 v48, LiveB V W [some ⟨v39, 46, 4, 0 + N + 1, [] ++ C ++ [.string f.name, .int .i64 f.rank, .int .i64 f.lo, .int .i64 f.hi]⟩, none, some ⟨v48, 3, 1, 0 + N + 1, [] ++ D ++ [.int .i64 f.lo]⟩, none] → Calls Try.prog 76 #[v39, v48, .int .i64 P] W fun e W' => ∃ x y, e = .returned (.tuple #[x, y]) ∧ R x y W')
    (hRB : ∀ x y W', R x y W' → Below V.heap.size V W')
    (hQ : ∀ u32 u33 u34 u35 u36 u37 u38 u39 u40 u41 u42 u43 u44 u45 u46 u47 u48 u49 u50 u51 u52 u53 x y W', R x y W' → Q .normal ⟨#[z0, z1, z2, z3, z4, z5, z6, z7, z8, z9, z10, x, y, z13, z14, z15, z16, z17, z18, z19, z20, z21, z22, z23, z24, z25, z26, z27, z28, z29, z30, z31, u32, u33, u34, u35, u36, u37, u38, u39, u40, u41, u42, u43, u44, u45, u46, u47, u48, u49, u50, u51, u52, u53, z54, z55, z56, z57, z58, z59, z60, z61, z62, z63, z64, z65, z66, z67, z68, z69, z70, z71, z72], []⟩ W')
    {w : World} (hL : LiveB V w [some ⟨z33, 46, 4, 0, []⟩, none, none, some ⟨z47, 3, 1, 1, [.int .i64 f.lo]⟩]) :
    wpAnyH Try.prog .any ops31_5 (NoPanic Q) S 12 #[true, true, true, false, true, false, false, false, true, true, false, true, true, true, true, false, true, true, false, false, false, false, false, false] ⟨#[z0, z1, z2, z3, z4, z5, z6, z7, z8, z9, z10, z11, z12, z13, z14, z15, z16, z17, z18, z19, z20, z21, z22, z23, z24, z25, z26, z27, z28, z29, z30, z31, z32, z33, z34, vC, z36, .agg #[.string f.name, .int .i64 f.rank, .int .i64 f.lo, .int .i64 f.hi], z38, z39, z40, z41, vD, z43, z44, z45, .int .i64 f.lo, z47, z48, z49, .int .i64 P, z51, z52, z53, z54, z55, z56, z57, z58, z59, z60, z61, z62, z63, z64, z65, z66, z67, z68, z69, z70, z71, z72], []⟩ w := by
  refine wpAnyH_ready (rs := [3, 5, 7]) (by kernel_rfl) (by simp) ?_
  refine AllReadyH.cons (o := opN ops31_5 3) (by kernel_rfl) (fun K hK => ?_) ?_
  · obtain ⟨i4, hi4, hz40, hz41, hz42⟩ := info_parts Try.info46
    refine step_append_live (by rfl) _ _ 40 (by rfl) hL 0 _ rfl i4 _ 40 Try.underlying40 hi4 hz40 hz41 hz42 rfl (Nat.succ_pos _) (by rfl) vC N _ (by rfl) (srcs_keep hL hC) (by simp only []; unfold maxLen; omega) (by simp only []; omega) ?_
    intro v' w' hL'
    exact hK.out _ _ (hS _ hL'.1) (fun _ => st31_0_3_14 hS hN hC hD hcall hRB hQ hL')
  refine AllReadyH.cons (o := opN ops31_5 5) (by kernel_rfl) (fun K hK => ?_) ?_
  · obtain ⟨o, e⟩ : ∃ o, o = opN ops31_5 5 := ⟨_, rfl⟩
    rw [← e]
    conv at e => rhs; whnf
    subst e
    go_simp
    have hL' := liveB_lit hL 1 #[.string f.name, .int .i64 f.rank, .int .i64 f.lo, .int .i64 f.hi] 46 4 1 (by unfold maxLen; omega) rfl
    exact hK.out _ _ (hS _ hL'.1) (fun _ => st31_0_5_14 hS hN hC hD hcall hRB hQ hL')
  refine AllReadyH.cons (o := opN ops31_5 7) (by kernel_rfl) (fun K hK => ?_) ?_
  · obtain ⟨o, e⟩ : ∃ o, o = opN ops31_5 7 := ⟨_, rfl⟩
    rw [← e]
    conv at e => rhs; whnf
    subst e
    go_simp
    have hL' := liveB_lit hL 2 #[] 3 1 0 (Nat.zero_le _) rfl
    exact hK.out _ _ (hS _ hL'.1) (fun _ => st31_0_7_14 hS hN hC hD hcall hRB hQ hL')
  exact AllReadyH.nil

set_option maxRecDepth 1000000 in
set_option maxHeartbeats 2000000 in
theorem st31_5_7 {Q : Exit → Act → World → Prop} {S : World → Prop} {R : Value → Value → World → Prop} {V : World} {vC vD : Value} {N : Nat} {C D : List Value} {f : Clm} {P : Int}
    {z0 z1 z2 z3 z4 z5 z6 z7 z8 z9 z10 z11 z12 z13 z14 z15 z16 z17 z18 z19 z20 z21 z22 z23 z24 z25 z26 z27 z28 z29 z30 z31 z32 z33 z34 z36 z38 z39 z40 z41 z43 z44 z45 z47 z48 z49 z51 z52 z53 z54 z55 z56 z57 z58 z59 z60 z61 z62 z63 z64 z65 z66 z67 z68 z69 z70 z71 z72 : Value}
    (hS : ∀ W', Below V.heap.size V W' → S W') (hN : N ≤ 8) (hC : Srcs V 4 vC N C) (hD : Srcs V 1 vD N D)
    (hcall : ∀ W v39 v48, LiveB V W [some ⟨v39, 46, 4, 0 + N + 1, [] ++ C ++ [.string f.name, .int .i64 f.rank, .int .i64 f.lo, .int .i64 f.hi]⟩, none, some ⟨v48, 3, 1, 0 + N + 1, [] ++ D ++ [.int .i64 f.lo]⟩, none] → Calls Try.prog 76 #[v39, v48, .int .i64 P] W fun e W' => ∃ x y, e = .returned (.tuple #[x, y]) ∧ R x y W')
    (hRB : ∀ x y W', R x y W' → Below V.heap.size V W')
    (hQ : ∀ u32 u33 u34 u35 u36 u37 u38 u39 u40 u41 u42 u43 u44 u45 u46 u47 u48 u49 u50 u51 u52 u53 x y W', R x y W' → Q .normal ⟨#[z0, z1, z2, z3, z4, z5, z6, z7, z8, z9, z10, x, y, z13, z14, z15, z16, z17, z18, z19, z20, z21, z22, z23, z24, z25, z26, z27, z28, z29, z30, z31, u32, u33, u34, u35, u36, u37, u38, u39, u40, u41, u42, u43, u44, u45, u46, u47, u48, u49, u50, u51, u52, u53, z54, z55, z56, z57, z58, z59, z60, z61, z62, z63, z64, z65, z66, z67, z68, z69, z70, z71, z72], []⟩ W')
    {w : World} (hL : LiveB V w [none, some ⟨z38, 46, 4, 1, [.string f.name, .int .i64 f.rank, .int .i64 f.lo, .int .i64 f.hi]⟩, some ⟨z40, 3, 1, 0, []⟩, none]) :
    wpAnyH Try.prog .any ops31_5 (NoPanic Q) S 12 #[false, true, true, false, true, true, false, true, true, true, false, true, true, true, false, false, true, true, false, false, false, false, false, false] ⟨#[z0, z1, z2, z3, z4, z5, z6, z7, z8, z9, z10, z11, z12, z13, z14, z15, z16, z17, z18, z19, z20, z21, z22, z23, z24, z25, z26, z27, z28, z29, z30, z31, z32, z33, z34, vC, z36, .agg #[.string f.name, .int .i64 f.rank, .int .i64 f.lo, .int .i64 f.hi], z38, z39, z40, z41, vD, z43, z44, z45, .int .i64 f.lo, z47, z48, z49, .int .i64 P, z51, z52, z53, z54, z55, z56, z57, z58, z59, z60, z61, z62, z63, z64, z65, z66, z67, z68, z69, z70, z71, z72], []⟩ w := by
  refine wpAnyH_ready (rs := [0, 14]) (by kernel_rfl) (by simp) ?_
  refine AllReadyH.cons (o := opN ops31_5 0) (by kernel_rfl) (fun K hK => ?_) ?_
  · obtain ⟨o, e⟩ : ∃ o, o = opN ops31_5 0 := ⟨_, rfl⟩
    rw [← e]
    conv at e => rhs; whnf
    subst e
    go_simp
    have hL' := liveB_lit hL 0 #[] 46 4 0 (Nat.zero_le _) rfl
    exact hK.out _ _ (hS _ hL'.1) (fun _ => st31_0_5_7 hS hN hC hD hcall hRB hQ hL')
  refine AllReadyH.cons (o := opN ops31_5 14) (by kernel_rfl) (fun K hK => ?_) ?_
  · obtain ⟨o, e⟩ : ∃ o, o = opN ops31_5 14 := ⟨_, rfl⟩
    rw [← e]
    conv at e => rhs; whnf
    subst e
    go_simp
    have hL' := liveB_lit hL 3 #[.int .i64 f.lo] 3 1 1 (by unfold maxLen; omega) rfl
    exact hK.out _ _ (hS _ hL'.1) (fun _ => st31_5_7_14 hS hN hC hD hcall hRB hQ hL')
  exact AllReadyH.nil

set_option maxRecDepth 1000000 in
set_option maxHeartbeats 2000000 in
theorem st31_5_14 {Q : Exit → Act → World → Prop} {S : World → Prop} {R : Value → Value → World → Prop} {V : World} {vC vD : Value} {N : Nat} {C D : List Value} {f : Clm} {P : Int}
    {z0 z1 z2 z3 z4 z5 z6 z7 z8 z9 z10 z11 z12 z13 z14 z15 z16 z17 z18 z19 z20 z21 z22 z23 z24 z25 z26 z27 z28 z29 z30 z31 z32 z33 z34 z36 z38 z39 z40 z41 z43 z44 z45 z47 z48 z49 z51 z52 z53 z54 z55 z56 z57 z58 z59 z60 z61 z62 z63 z64 z65 z66 z67 z68 z69 z70 z71 z72 : Value}
    (hS : ∀ W', Below V.heap.size V W' → S W') (hN : N ≤ 8) (hC : Srcs V 4 vC N C) (hD : Srcs V 1 vD N D)
    (hcall : ∀ W v39 v48, LiveB V W [some ⟨v39, 46, 4, 0 + N + 1, [] ++ C ++ [.string f.name, .int .i64 f.rank, .int .i64 f.lo, .int .i64 f.hi]⟩, none, some ⟨v48, 3, 1, 0 + N + 1, [] ++ D ++ [.int .i64 f.lo]⟩, none] → Calls Try.prog 76 #[v39, v48, .int .i64 P] W fun e W' => ∃ x y, e = .returned (.tuple #[x, y]) ∧ R x y W')
    (hRB : ∀ x y W', R x y W' → Below V.heap.size V W')
    (hQ : ∀ u32 u33 u34 u35 u36 u37 u38 u39 u40 u41 u42 u43 u44 u45 u46 u47 u48 u49 u50 u51 u52 u53 x y W', R x y W' → Q .normal ⟨#[z0, z1, z2, z3, z4, z5, z6, z7, z8, z9, z10, x, y, z13, z14, z15, z16, z17, z18, z19, z20, z21, z22, z23, z24, z25, z26, z27, z28, z29, z30, z31, u32, u33, u34, u35, u36, u37, u38, u39, u40, u41, u42, u43, u44, u45, u46, u47, u48, u49, u50, u51, u52, u53, z54, z55, z56, z57, z58, z59, z60, z61, z62, z63, z64, z65, z66, z67, z68, z69, z70, z71, z72], []⟩ W')
    {w : World} (hL : LiveB V w [none, some ⟨z38, 46, 4, 1, [.string f.name, .int .i64 f.rank, .int .i64 f.lo, .int .i64 f.hi]⟩, none, some ⟨z47, 3, 1, 1, [.int .i64 f.lo]⟩]) :
    wpAnyH Try.prog .any ops31_5 (NoPanic Q) S 12 #[false, true, true, false, true, true, false, false, true, true, false, true, true, true, true, false, true, true, false, false, false, false, false, false] ⟨#[z0, z1, z2, z3, z4, z5, z6, z7, z8, z9, z10, z11, z12, z13, z14, z15, z16, z17, z18, z19, z20, z21, z22, z23, z24, z25, z26, z27, z28, z29, z30, z31, z32, z33, z34, vC, z36, .agg #[.string f.name, .int .i64 f.rank, .int .i64 f.lo, .int .i64 f.hi], z38, z39, z40, z41, vD, z43, z44, z45, .int .i64 f.lo, z47, z48, z49, .int .i64 P, z51, z52, z53, z54, z55, z56, z57, z58, z59, z60, z61, z62, z63, z64, z65, z66, z67, z68, z69, z70, z71, z72], []⟩ w := by
  refine wpAnyH_ready (rs := [0, 7]) (by kernel_rfl) (by simp) ?_
  refine AllReadyH.cons (o := opN ops31_5 0) (by kernel_rfl) (fun K hK => ?_) ?_
  · obtain ⟨o, e⟩ : ∃ o, o = opN ops31_5 0 := ⟨_, rfl⟩
    rw [← e]
    conv at e => rhs; whnf
    subst e
    go_simp
    have hL' := liveB_lit hL 0 #[] 46 4 0 (Nat.zero_le _) rfl
    exact hK.out _ _ (hS _ hL'.1) (fun _ => st31_0_5_14 hS hN hC hD hcall hRB hQ hL')
  refine AllReadyH.cons (o := opN ops31_5 7) (by kernel_rfl) (fun K hK => ?_) ?_
  · obtain ⟨o, e⟩ : ∃ o, o = opN ops31_5 7 := ⟨_, rfl⟩
    rw [← e]
    conv at e => rhs; whnf
    subst e
    go_simp
    have hL' := liveB_lit hL 2 #[] 3 1 0 (Nat.zero_le _) rfl
    exact hK.out _ _ (hS _ hL'.1) (fun _ => st31_5_7_14 hS hN hC hD hcall hRB hQ hL')
  exact AllReadyH.nil

set_option maxRecDepth 1000000 in
set_option maxHeartbeats 2000000 in
theorem st31_7_14 {Q : Exit → Act → World → Prop} {S : World → Prop} {R : Value → Value → World → Prop} {V : World} {vC vD : Value} {N : Nat} {C D : List Value} {f : Clm} {P : Int}
    {z0 z1 z2 z3 z4 z5 z6 z7 z8 z9 z10 z11 z12 z13 z14 z15 z16 z17 z18 z19 z20 z21 z22 z23 z24 z25 z26 z27 z28 z29 z30 z31 z32 z33 z34 z36 z38 z39 z40 z41 z43 z44 z45 z47 z48 z49 z51 z52 z53 z54 z55 z56 z57 z58 z59 z60 z61 z62 z63 z64 z65 z66 z67 z68 z69 z70 z71 z72 : Value}
    (hS : ∀ W', Below V.heap.size V W' → S W') (hN : N ≤ 8) (hC : Srcs V 4 vC N C) (hD : Srcs V 1 vD N D)
    (hcall : ∀ W v39 v48, LiveB V W [some ⟨v39, 46, 4, 0 + N + 1, [] ++ C ++ [.string f.name, .int .i64 f.rank, .int .i64 f.lo, .int .i64 f.hi]⟩, none, some ⟨v48, 3, 1, 0 + N + 1, [] ++ D ++ [.int .i64 f.lo]⟩, none] → Calls Try.prog 76 #[v39, v48, .int .i64 P] W fun e W' => ∃ x y, e = .returned (.tuple #[x, y]) ∧ R x y W')
    (hRB : ∀ x y W', R x y W' → Below V.heap.size V W')
    (hQ : ∀ u32 u33 u34 u35 u36 u37 u38 u39 u40 u41 u42 u43 u44 u45 u46 u47 u48 u49 u50 u51 u52 u53 x y W', R x y W' → Q .normal ⟨#[z0, z1, z2, z3, z4, z5, z6, z7, z8, z9, z10, x, y, z13, z14, z15, z16, z17, z18, z19, z20, z21, z22, z23, z24, z25, z26, z27, z28, z29, z30, z31, u32, u33, u34, u35, u36, u37, u38, u39, u40, u41, u42, u43, u44, u45, u46, u47, u48, u49, u50, u51, u52, u53, z54, z55, z56, z57, z58, z59, z60, z61, z62, z63, z64, z65, z66, z67, z68, z69, z70, z71, z72], []⟩ W')
    {w : World} (hL : LiveB V w [none, none, some ⟨z40, 3, 1, 0, []⟩, some ⟨z47, 3, 1, 1, [.int .i64 f.lo]⟩]) :
    wpAnyH Try.prog .any ops31_5 (NoPanic Q) S 12 #[false, true, true, false, true, false, false, true, true, true, false, true, true, true, true, false, true, true, false, false, false, false, false, false] ⟨#[z0, z1, z2, z3, z4, z5, z6, z7, z8, z9, z10, z11, z12, z13, z14, z15, z16, z17, z18, z19, z20, z21, z22, z23, z24, z25, z26, z27, z28, z29, z30, z31, z32, z33, z34, vC, z36, .agg #[.string f.name, .int .i64 f.rank, .int .i64 f.lo, .int .i64 f.hi], z38, z39, z40, z41, vD, z43, z44, z45, .int .i64 f.lo, z47, z48, z49, .int .i64 P, z51, z52, z53, z54, z55, z56, z57, z58, z59, z60, z61, z62, z63, z64, z65, z66, z67, z68, z69, z70, z71, z72], []⟩ w := by
  refine wpAnyH_ready (rs := [0, 5]) (by kernel_rfl) (by simp) ?_
  refine AllReadyH.cons (o := opN ops31_5 0) (by kernel_rfl) (fun K hK => ?_) ?_
  · obtain ⟨o, e⟩ : ∃ o, o = opN ops31_5 0 := ⟨_, rfl⟩
    rw [← e]
    conv at e => rhs; whnf
    subst e
    go_simp
    have hL' := liveB_lit hL 0 #[] 46 4 0 (Nat.zero_le _) rfl
    exact hK.out _ _ (hS _ hL'.1) (fun _ => st31_0_7_14 hS hN hC hD hcall hRB hQ hL')
  refine AllReadyH.cons (o := opN ops31_5 5) (by kernel_rfl) (fun K hK => ?_) ?_
  · obtain ⟨o, e⟩ : ∃ o, o = opN ops31_5 5 := ⟨_, rfl⟩
    rw [← e]
    conv at e => rhs; whnf
    subst e
    go_simp
    have hL' := liveB_lit hL 1 #[.string f.name, .int .i64 f.rank, .int .i64 f.lo, .int .i64 f.hi] 46 4 1 (by unfold maxLen; omega) rfl
    exact hK.out _ _ (hS _ hL'.1) (fun _ => st31_5_7_14 hS hN hC hD hcall hRB hQ hL')
  exact AllReadyH.nil

set_option maxRecDepth 1000000 in
set_option maxHeartbeats 2000000 in
theorem st31_0 {Q : Exit → Act → World → Prop} {S : World → Prop} {R : Value → Value → World → Prop} {V : World} {vC vD : Value} {N : Nat} {C D : List Value} {f : Clm} {P : Int}
    {z0 z1 z2 z3 z4 z5 z6 z7 z8 z9 z10 z11 z12 z13 z14 z15 z16 z17 z18 z19 z20 z21 z22 z23 z24 z25 z26 z27 z28 z29 z30 z31 z32 z33 z34 z36 z38 z39 z40 z41 z43 z44 z45 z47 z48 z49 z51 z52 z53 z54 z55 z56 z57 z58 z59 z60 z61 z62 z63 z64 z65 z66 z67 z68 z69 z70 z71 z72 : Value}
    (hS : ∀ W', Below V.heap.size V W' → S W') (hN : N ≤ 8) (hC : Srcs V 4 vC N C) (hD : Srcs V 1 vD N D)
    (hcall : ∀ W v39 v48, LiveB V W [some ⟨v39, 46, 4, 0 + N + 1, [] ++ C ++ [.string f.name, .int .i64 f.rank, .int .i64 f.lo, .int .i64 f.hi]⟩, none, some ⟨v48, 3, 1, 0 + N + 1, [] ++ D ++ [.int .i64 f.lo]⟩, none] → Calls Try.prog 76 #[v39, v48, .int .i64 P] W fun e W' => ∃ x y, e = .returned (.tuple #[x, y]) ∧ R x y W')
    (hRB : ∀ x y W', R x y W' → Below V.heap.size V W')
    (hQ : ∀ u32 u33 u34 u35 u36 u37 u38 u39 u40 u41 u42 u43 u44 u45 u46 u47 u48 u49 u50 u51 u52 u53 x y W', R x y W' → Q .normal ⟨#[z0, z1, z2, z3, z4, z5, z6, z7, z8, z9, z10, x, y, z13, z14, z15, z16, z17, z18, z19, z20, z21, z22, z23, z24, z25, z26, z27, z28, z29, z30, z31, u32, u33, u34, u35, u36, u37, u38, u39, u40, u41, u42, u43, u44, u45, u46, u47, u48, u49, u50, u51, u52, u53, z54, z55, z56, z57, z58, z59, z60, z61, z62, z63, z64, z65, z66, z67, z68, z69, z70, z71, z72], []⟩ W')
    {w : World} (hL : LiveB V w [some ⟨z33, 46, 4, 0, []⟩, none, none, none]) :
    wpAnyH Try.prog .any ops31_5 (NoPanic Q) S 13 #[true, true, true, false, true, false, false, false, true, true, false, true, true, true, false, false, true, true, false, false, false, false, false, false] ⟨#[z0, z1, z2, z3, z4, z5, z6, z7, z8, z9, z10, z11, z12, z13, z14, z15, z16, z17, z18, z19, z20, z21, z22, z23, z24, z25, z26, z27, z28, z29, z30, z31, z32, z33, z34, vC, z36, .agg #[.string f.name, .int .i64 f.rank, .int .i64 f.lo, .int .i64 f.hi], z38, z39, z40, z41, vD, z43, z44, z45, .int .i64 f.lo, z47, z48, z49, .int .i64 P, z51, z52, z53, z54, z55, z56, z57, z58, z59, z60, z61, z62, z63, z64, z65, z66, z67, z68, z69, z70, z71, z72], []⟩ w := by
  refine wpAnyH_ready (rs := [3, 5, 7, 14]) (by kernel_rfl) (by simp) ?_
  refine AllReadyH.cons (o := opN ops31_5 3) (by kernel_rfl) (fun K hK => ?_) ?_
  · obtain ⟨i4, hi4, hz40, hz41, hz42⟩ := info_parts Try.info46
    refine step_append_live (by rfl) _ _ 40 (by rfl) hL 0 _ rfl i4 _ 40 Try.underlying40 hi4 hz40 hz41 hz42 rfl (Nat.succ_pos _) (by rfl) vC N _ (by rfl) (srcs_keep hL hC) (by simp only []; unfold maxLen; omega) (by simp only []; omega) ?_
    intro v' w' hL'
    exact hK.out _ _ (hS _ hL'.1) (fun _ => st31_0_3 hS hN hC hD hcall hRB hQ hL')
  refine AllReadyH.cons (o := opN ops31_5 5) (by kernel_rfl) (fun K hK => ?_) ?_
  · obtain ⟨o, e⟩ : ∃ o, o = opN ops31_5 5 := ⟨_, rfl⟩
    rw [← e]
    conv at e => rhs; whnf
    subst e
    go_simp
    have hL' := liveB_lit hL 1 #[.string f.name, .int .i64 f.rank, .int .i64 f.lo, .int .i64 f.hi] 46 4 1 (by unfold maxLen; omega) rfl
    exact hK.out _ _ (hS _ hL'.1) (fun _ => st31_0_5 hS hN hC hD hcall hRB hQ hL')
  refine AllReadyH.cons (o := opN ops31_5 7) (by kernel_rfl) (fun K hK => ?_) ?_
  · obtain ⟨o, e⟩ : ∃ o, o = opN ops31_5 7 := ⟨_, rfl⟩
    rw [← e]
    conv at e => rhs; whnf
    subst e
    go_simp
    have hL' := liveB_lit hL 2 #[] 3 1 0 (Nat.zero_le _) rfl
    exact hK.out _ _ (hS _ hL'.1) (fun _ => st31_0_7 hS hN hC hD hcall hRB hQ hL')
  refine AllReadyH.cons (o := opN ops31_5 14) (by kernel_rfl) (fun K hK => ?_) ?_
  · obtain ⟨o, e⟩ : ∃ o, o = opN ops31_5 14 := ⟨_, rfl⟩
    rw [← e]
    conv at e => rhs; whnf
    subst e
    go_simp
    have hL' := liveB_lit hL 3 #[.int .i64 f.lo] 3 1 1 (by unfold maxLen; omega) rfl
    exact hK.out _ _ (hS _ hL'.1) (fun _ => st31_0_14 hS hN hC hD hcall hRB hQ hL')
  exact AllReadyH.nil

set_option maxRecDepth 1000000 in
set_option maxHeartbeats 2000000 in
theorem st31_5 {Q : Exit → Act → World → Prop} {S : World → Prop} {R : Value → Value → World → Prop} {V : World} {vC vD : Value} {N : Nat} {C D : List Value} {f : Clm} {P : Int}
    {z0 z1 z2 z3 z4 z5 z6 z7 z8 z9 z10 z11 z12 z13 z14 z15 z16 z17 z18 z19 z20 z21 z22 z23 z24 z25 z26 z27 z28 z29 z30 z31 z32 z33 z34 z36 z38 z39 z40 z41 z43 z44 z45 z47 z48 z49 z51 z52 z53 z54 z55 z56 z57 z58 z59 z60 z61 z62 z63 z64 z65 z66 z67 z68 z69 z70 z71 z72 : Value}
    (hS : ∀ W', Below V.heap.size V W' → S W') (hN : N ≤ 8) (hC : Srcs V 4 vC N C) (hD : Srcs V 1 vD N D)
    (hcall : ∀ W v39 v48, LiveB V W [some ⟨v39, 46, 4, 0 + N + 1, [] ++ C ++ [.string f.name, .int .i64 f.rank, .int .i64 f.lo, .int .i64 f.hi]⟩, none, some ⟨v48, 3, 1, 0 + N + 1, [] ++ D ++ [.int .i64 f.lo]⟩, none] → Calls Try.prog 76 #[v39, v48, .int .i64 P] W fun e W' => ∃ x y, e = .returned (.tuple #[x, y]) ∧ R x y W')
    (hRB : ∀ x y W', R x y W' → Below V.heap.size V W')
    (hQ : ∀ u32 u33 u34 u35 u36 u37 u38 u39 u40 u41 u42 u43 u44 u45 u46 u47 u48 u49 u50 u51 u52 u53 x y W', R x y W' → Q .normal ⟨#[z0, z1, z2, z3, z4, z5, z6, z7, z8, z9, z10, x, y, z13, z14, z15, z16, z17, z18, z19, z20, z21, z22, z23, z24, z25, z26, z27, z28, z29, z30, z31, u32, u33, u34, u35, u36, u37, u38, u39, u40, u41, u42, u43, u44, u45, u46, u47, u48, u49, u50, u51, u52, u53, z54, z55, z56, z57, z58, z59, z60, z61, z62, z63, z64, z65, z66, z67, z68, z69, z70, z71, z72], []⟩ W')
    {w : World} (hL : LiveB V w [none, some ⟨z38, 46, 4, 1, [.string f.name, .int .i64 f.rank, .int .i64 f.lo, .int .i64 f.hi]⟩, none, none]) :
    wpAnyH Try.prog .any ops31_5 (NoPanic Q) S 13 #[false, true, true, false, true, true, false, false, true, true, false, true, true, true, false, false, true, true, false, false, false, false, false, false] ⟨#[z0, z1, z2, z3, z4, z5, z6, z7, z8, z9, z10, z11, z12, z13, z14, z15, z16, z17, z18, z19, z20, z21, z22, z23, z24, z25, z26, z27, z28, z29, z30, z31, z32, z33, z34, vC, z36, .agg #[.string f.name, .int .i64 f.rank, .int .i64 f.lo, .int .i64 f.hi], z38, z39, z40, z41, vD, z43, z44, z45, .int .i64 f.lo, z47, z48, z49, .int .i64 P, z51, z52, z53, z54, z55, z56, z57, z58, z59, z60, z61, z62, z63, z64, z65, z66, z67, z68, z69, z70, z71, z72], []⟩ w := by
  refine wpAnyH_ready (rs := [0, 7, 14]) (by kernel_rfl) (by simp) ?_
  refine AllReadyH.cons (o := opN ops31_5 0) (by kernel_rfl) (fun K hK => ?_) ?_
  · obtain ⟨o, e⟩ : ∃ o, o = opN ops31_5 0 := ⟨_, rfl⟩
    rw [← e]
    conv at e => rhs; whnf
    subst e
    go_simp
    have hL' := liveB_lit hL 0 #[] 46 4 0 (Nat.zero_le _) rfl
    exact hK.out _ _ (hS _ hL'.1) (fun _ => st31_0_5 hS hN hC hD hcall hRB hQ hL')
  refine AllReadyH.cons (o := opN ops31_5 7) (by kernel_rfl) (fun K hK => ?_) ?_
  · obtain ⟨o, e⟩ : ∃ o, o = opN ops31_5 7 := ⟨_, rfl⟩
    rw [← e]
    conv at e => rhs; whnf
    subst e
    go_simp
    have hL' := liveB_lit hL 2 #[] 3 1 0 (Nat.zero_le _) rfl
    exact hK.out _ _ (hS _ hL'.1) (fun _ => st31_5_7 hS hN hC hD hcall hRB hQ hL')
  refine AllReadyH.cons (o := opN ops31_5 14) (by kernel_rfl) (fun K hK => ?_) ?_
  · obtain ⟨o, e⟩ : ∃ o, o = opN ops31_5 14 := ⟨_, rfl⟩
    rw [← e]
    conv at e => rhs; whnf
    subst e
    go_simp
    have hL' := liveB_lit hL 3 #[.int .i64 f.lo] 3 1 1 (by unfold maxLen; omega) rfl
    exact hK.out _ _ (hS _ hL'.1) (fun _ => st31_5_14 hS hN hC hD hcall hRB hQ hL')
  exact AllReadyH.nil

set_option maxRecDepth 1000000 in
set_option maxHeartbeats 2000000 in
theorem st31_7 {Q : Exit → Act → World → Prop} {S : World → Prop} {R : Value → Value → World → Prop} {V : World} {vC vD : Value} {N : Nat} {C D : List Value} {f : Clm} {P : Int}
    {z0 z1 z2 z3 z4 z5 z6 z7 z8 z9 z10 z11 z12 z13 z14 z15 z16 z17 z18 z19 z20 z21 z22 z23 z24 z25 z26 z27 z28 z29 z30 z31 z32 z33 z34 z36 z38 z39 z40 z41 z43 z44 z45 z47 z48 z49 z51 z52 z53 z54 z55 z56 z57 z58 z59 z60 z61 z62 z63 z64 z65 z66 z67 z68 z69 z70 z71 z72 : Value}
    (hS : ∀ W', Below V.heap.size V W' → S W') (hN : N ≤ 8) (hC : Srcs V 4 vC N C) (hD : Srcs V 1 vD N D)
    (hcall : ∀ W v39 v48, LiveB V W [some ⟨v39, 46, 4, 0 + N + 1, [] ++ C ++ [.string f.name, .int .i64 f.rank, .int .i64 f.lo, .int .i64 f.hi]⟩, none, some ⟨v48, 3, 1, 0 + N + 1, [] ++ D ++ [.int .i64 f.lo]⟩, none] → Calls Try.prog 76 #[v39, v48, .int .i64 P] W fun e W' => ∃ x y, e = .returned (.tuple #[x, y]) ∧ R x y W')
    (hRB : ∀ x y W', R x y W' → Below V.heap.size V W')
    (hQ : ∀ u32 u33 u34 u35 u36 u37 u38 u39 u40 u41 u42 u43 u44 u45 u46 u47 u48 u49 u50 u51 u52 u53 x y W', R x y W' → Q .normal ⟨#[z0, z1, z2, z3, z4, z5, z6, z7, z8, z9, z10, x, y, z13, z14, z15, z16, z17, z18, z19, z20, z21, z22, z23, z24, z25, z26, z27, z28, z29, z30, z31, u32, u33, u34, u35, u36, u37, u38, u39, u40, u41, u42, u43, u44, u45, u46, u47, u48, u49, u50, u51, u52, u53, z54, z55, z56, z57, z58, z59, z60, z61, z62, z63, z64, z65, z66, z67, z68, z69, z70, z71, z72], []⟩ W')
    {w : World} (hL : LiveB V w [none, none, some ⟨z40, 3, 1, 0, []⟩, none]) :
    wpAnyH Try.prog .any ops31_5 (NoPanic Q) S 13 #[false, true, true, false, true, false, false, true, true, true, false, true, true, true, false, false, true, true, false, false, false, false, false, false] ⟨#[z0, z1, z2, z3, z4, z5, z6, z7, z8, z9, z10, z11, z12, z13, z14, z15, z16, z17, z18, z19, z20, z21, z22, z23, z24, z25, z26, z27, z28, z29, z30, z31, z32, z33, z34, vC, z36, .agg #[.string f.name, .int .i64 f.rank, .int .i64 f.lo, .int .i64 f.hi], z38, z39, z40, z41, vD, z43, z44, z45, .int .i64 f.lo, z47, z48, z49, .int .i64 P, z51, z52, z53, z54, z55, z56, z57, z58, z59, z60, z61, z62, z63, z64, z65, z66, z67, z68, z69, z70, z71, z72], []⟩ w := by
  refine wpAnyH_ready (rs := [0, 5, 14]) (by kernel_rfl) (by simp) ?_
  refine AllReadyH.cons (o := opN ops31_5 0) (by kernel_rfl) (fun K hK => ?_) ?_
  · obtain ⟨o, e⟩ : ∃ o, o = opN ops31_5 0 := ⟨_, rfl⟩
    rw [← e]
    conv at e => rhs; whnf
    subst e
    go_simp
    have hL' := liveB_lit hL 0 #[] 46 4 0 (Nat.zero_le _) rfl
    exact hK.out _ _ (hS _ hL'.1) (fun _ => st31_0_7 hS hN hC hD hcall hRB hQ hL')
  refine AllReadyH.cons (o := opN ops31_5 5) (by kernel_rfl) (fun K hK => ?_) ?_
  · obtain ⟨o, e⟩ : ∃ o, o = opN ops31_5 5 := ⟨_, rfl⟩
    rw [← e]
    conv at e => rhs; whnf
    subst e
    go_simp
    have hL' := liveB_lit hL 1 #[.string f.name, .int .i64 f.rank, .int .i64 f.lo, .int .i64 f.hi] 46 4 1 (by unfold maxLen; omega) rfl
    exact hK.out _ _ (hS _ hL'.1) (fun _ => st31_5_7 hS hN hC hD hcall hRB hQ hL')
  refine AllReadyH.cons (o := opN ops31_5 14) (by kernel_rfl) (fun K hK => ?_) ?_
  · obtain ⟨o, e⟩ : ∃ o, o = opN ops31_5 14 := ⟨_, rfl⟩
    rw [← e]
    conv at e => rhs; whnf
    subst e
    go_simp
    have hL' := liveB_lit hL 3 #[.int .i64 f.lo] 3 1 1 (by unfold maxLen; omega) rfl
    exact hK.out _ _ (hS _ hL'.1) (fun _ => st31_7_14 hS hN hC hD hcall hRB hQ hL')
  exact AllReadyH.nil

set_option maxRecDepth 1000000 in
set_option maxHeartbeats 2000000 in
theorem st31_14 {Q : Exit → Act → World → Prop} {S : World → Prop} {R : Value → Value → World → Prop} {V : World} {vC vD : Value} {N : Nat} {C D : List Value} {f : Clm} {P : Int}
    {z0 z1 z2 z3 z4 z5 z6 z7 z8 z9 z10 z11 z12 z13 z14 z15 z16 z17 z18 z19 z20 z21 z22 z23 z24 z25 z26 z27 z28 z29 z30 z31 z32 z33 z34 z36 z38 z39 z40 z41 z43 z44 z45 z47 z48 z49 z51 z52 z53 z54 z55 z56 z57 z58 z59 z60 z61 z62 z63 z64 z65 z66 z67 z68 z69 z70 z71 z72 : Value}
    (hS : ∀ W', Below V.heap.size V W' → S W') (hN : N ≤ 8) (hC : Srcs V 4 vC N C) (hD : Srcs V 1 vD N D)
    (hcall : ∀ W v39 v48, LiveB V W [some ⟨v39, 46, 4, 0 + N + 1, [] ++ C ++ [.string f.name, .int .i64 f.rank, .int .i64 f.lo, .int .i64 f.hi]⟩, none, some ⟨v48, 3, 1, 0 + N + 1, [] ++ D ++ [.int .i64 f.lo]⟩, none] → Calls Try.prog 76 #[v39, v48, .int .i64 P] W fun e W' => ∃ x y, e = .returned (.tuple #[x, y]) ∧ R x y W')
    (hRB : ∀ x y W', R x y W' → Below V.heap.size V W')
    (hQ : ∀ u32 u33 u34 u35 u36 u37 u38 u39 u40 u41 u42 u43 u44 u45 u46 u47 u48 u49 u50 u51 u52 u53 x y W', R x y W' → Q .normal ⟨#[z0, z1, z2, z3, z4, z5, z6, z7, z8, z9, z10, x, y, z13, z14, z15, z16, z17, z18, z19, z20, z21, z22, z23, z24, z25, z26, z27, z28, z29, z30, z31, u32, u33, u34, u35, u36, u37, u38, u39, u40, u41, u42, u43, u44, u45, u46, u47, u48, u49, u50, u51, u52, u53, z54, z55, z56, z57, z58, z59, z60, z61, z62, z63, z64, z65, z66, z67, z68, z69, z70, z71, z72], []⟩ W')
    {w : World} (hL : LiveB V w [none, none, none, some ⟨z47, 3, 1, 1, [.int .i64 f.lo]⟩]) :
    wpAnyH Try.prog .any ops31_5 (NoPanic Q) S 13 #[false, true, true, false, true, false, false, false, true, true, false, true, true, true, true, false, true, true, false, false, false, false, false, false] ⟨#[z0, z1, z2, z3, z4, z5, z6, z7, z8, z9, z10, z11, z12, z13, z14, z15, z16, z17, z18, z19, z20, z21, z22, z23, z24, z25, z26, z27, z28, z29, z30, z31, z32, z33, z34, vC, z36, .agg #[.string f.name, .int .i64 f.rank, .int .i64 f.lo, .int .i64 f.hi], z38, z39, z40, z41, vD, z43, z44, z45, .int .i64 f.lo, z47, z48, z49, .int .i64 P, z51, z52, z53, z54, z55, z56, z57, z58, z59, z60, z61, z62, z63, z64, z65, z66, z67, z68, z69, z70, z71, z72], []⟩ w := by
  refine wpAnyH_ready (rs := [0, 5, 7]) (by kernel_rfl) (by simp) ?_
  refine AllReadyH.cons (o := opN ops31_5 0) (by kernel_rfl) (fun K hK => ?_) ?_
  · obtain ⟨o, e⟩ : ∃ o, o = opN ops31_5 0 := ⟨_, rfl⟩
    rw [← e]
    conv at e => rhs; whnf
    subst e
    go_simp
    have hL' := liveB_lit hL 0 #[] 46 4 0 (Nat.zero_le _) rfl
    exact hK.out _ _ (hS _ hL'.1) (fun _ => st31_0_14 hS hN hC hD hcall hRB hQ hL')
  refine AllReadyH.cons (o := opN ops31_5 5) (by kernel_rfl) (fun K hK => ?_) ?_
  · obtain ⟨o, e⟩ : ∃ o, o = opN ops31_5 5 := ⟨_, rfl⟩
    rw [← e]
    conv at e => rhs; whnf
    subst e
    go_simp
    have hL' := liveB_lit hL 1 #[.string f.name, .int .i64 f.rank, .int .i64 f.lo, .int .i64 f.hi] 46 4 1 (by unfold maxLen; omega) rfl
    exact hK.out _ _ (hS _ hL'.1) (fun _ => st31_5_14 hS hN hC hD hcall hRB hQ hL')
  refine AllReadyH.cons (o := opN ops31_5 7) (by kernel_rfl) (fun K hK => ?_) ?_
  · obtain ⟨o, e⟩ : ∃ o, o = opN ops31_5 7 := ⟨_, rfl⟩
    rw [← e]
    conv at e => rhs; whnf
    subst e
    go_simp
    have hL' := liveB_lit hL 2 #[] 3 1 0 (Nat.zero_le _) rfl
    exact hK.out _ _ (hS _ hL'.1) (fun _ => st31_7_14 hS hN hC hD hcall hRB hQ hL')
  exact AllReadyH.nil

set_option maxRecDepth 1000000 in
set_option maxHeartbeats 2000000 in
theorem st31_e {Q : Exit → Act → World → Prop} {S : World → Prop} {R : Value → Value → World → Prop} {V : World} {vC vD : Value} {N : Nat} {C D : List Value} {f : Clm} {P : Int}
    {z0 z1 z2 z3 z4 z5 z6 z7 z8 z9 z10 z11 z12 z13 z14 z15 z16 z17 z18 z19 z20 z21 z22 z23 z24 z25 z26 z27 z28 z29 z30 z31 z32 z33 z34 z36 z38 z39 z40 z41 z43 z44 z45 z47 z48 z49 z51 z52 z53 z54 z55 z56 z57 z58 z59 z60 z61 z62 z63 z64 z65 z66 z67 z68 z69 z70 z71 z72 : Value}
    (hS : ∀ W', Below V.heap.size V W' → S W') (hN : N ≤ 8) (hC : Srcs V 4 vC N C) (hD : Srcs V 1 vD N D)
    (hcall : ∀ W v39 v48, LiveB V W [some ⟨v39, 46, 4, 0 + N + 1, [] ++ C ++ [.string f.name, .int .i64 f.rank, .int .i64 f.lo, .int .i64 f.hi]⟩, none, some ⟨v48, 3, 1, 0 + N + 1, [] ++ D ++ [.int .i64 f.lo]⟩, none] → Calls Try.prog 76 #[v39, v48, .int .i64 P] W fun e W' => ∃ x y, e = .returned (.tuple #[x, y]) ∧ R x y W')
    (hRB : ∀ x y W', R x y W' → Below V.heap.size V W')
    (hQ : ∀ u32 u33 u34 u35 u36 u37 u38 u39 u40 u41 u42 u43 u44 u45 u46 u47 u48 u49 u50 u51 u52 u53 x y W', R x y W' → Q .normal ⟨#[z0, z1, z2, z3, z4, z5, z6, z7, z8, z9, z10, x, y, z13, z14, z15, z16, z17, z18, z19, z20, z21, z22, z23, z24, z25, z26, z27, z28, z29, z30, z31, u32, u33, u34, u35, u36, u37, u38, u39, u40, u41, u42, u43, u44, u45, u46, u47, u48, u49, u50, u51, u52, u53, z54, z55, z56, z57, z58, z59, z60, z61, z62, z63, z64, z65, z66, z67, z68, z69, z70, z71, z72], []⟩ W')
    {w : World} (hL : LiveB V w [none, none, none, none]) :
    wpAnyH Try.prog .any ops31_5 (NoPanic Q) S 14 #[false, true, true, false, true, false, false, false, true, true, false, true, true, true, false, false, true, true, false, false, false, false, false, false] ⟨#[z0, z1, z2, z3, z4, z5, z6, z7, z8, z9, z10, z11, z12, z13, z14, z15, z16, z17, z18, z19, z20, z21, z22, z23, z24, z25, z26, z27, z28, z29, z30, z31, z32, z33, z34, vC, z36, .agg #[.string f.name, .int .i64 f.rank, .int .i64 f.lo, .int .i64 f.hi], z38, z39, z40, z41, vD, z43, z44, z45, .int .i64 f.lo, z47, z48, z49, .int .i64 P, z51, z52, z53, z54, z55, z56, z57, z58, z59, z60, z61, z62, z63, z64, z65, z66, z67, z68, z69, z70, z71, z72], []⟩ w := by
  refine wpAnyH_ready (rs := [0, 5, 7, 14]) (by kernel_rfl) (by simp) ?_
  refine AllReadyH.cons (o := opN ops31_5 0) (by kernel_rfl) (fun K hK => ?_) ?_
  · obtain ⟨o, e⟩ : ∃ o, o = opN ops31_5 0 := ⟨_, rfl⟩
    rw [← e]
    conv at e => rhs; whnf
    subst e
    go_simp
    have hL' := liveB_lit hL 0 #[] 46 4 0 (Nat.zero_le _) rfl
    exact hK.out _ _ (hS _ hL'.1) (fun _ => st31_0 hS hN hC hD hcall hRB hQ hL')
  refine AllReadyH.cons (o := opN ops31_5 5) (by kernel_rfl) (fun K hK => ?_) ?_
  · obtain ⟨o, e⟩ : ∃ o, o = opN ops31_5 5 := ⟨_, rfl⟩
    rw [← e]
    conv at e => rhs; whnf
    subst e
    go_simp
    have hL' := liveB_lit hL 1 #[.string f.name, .int .i64 f.rank, .int .i64 f.lo, .int .i64 f.hi] 46 4 1 (by unfold maxLen; omega) rfl
    exact hK.out _ _ (hS _ hL'.1) (fun _ => st31_5 hS hN hC hD hcall hRB hQ hL')
  refine AllReadyH.cons (o := opN ops31_5 7) (by kernel_rfl) (fun K hK => ?_) ?_
  · obtain ⟨o, e⟩ : ∃ o, o = opN ops31_5 7 := ⟨_, rfl⟩
    rw [← e]
    conv at e => rhs; whnf
    subst e
    go_simp
    have hL' := liveB_lit hL 2 #[] 3 1 0 (Nat.zero_le _) rfl
    exact hK.out _ _ (hS _ hL'.1) (fun _ => st31_7 hS hN hC hD hcall hRB hQ hL')
  refine AllReadyH.cons (o := opN ops31_5 14) (by kernel_rfl) (fun K hK => ?_) ?_
  · obtain ⟨o, e⟩ : ∃ o, o = opN ops31_5 14 := ⟨_, rfl⟩
    rw [← e]
    conv at e => rhs; whnf
    subst e
    go_simp
    have hL' := liveB_lit hL 3 #[.int .i64 f.lo] 3 1 1 (by unfold maxLen; omega) rfl
    exact hK.out _ _ (hS _ hL'.1) (fun _ => st31_14 hS hN hC hD hcall hRB hQ hL')
  exact AllReadyH.nil

set_option maxRecDepth 1000000 in
set_option maxHeartbeats 4000000 in
theorem reg31_5 {Q : Exit → Act → World → Prop} {R : Value → Value → World → Prop} {V : World} {A DA : Option Addr} {N cap capD hA hT hF : Nat} {C D : List Value} {f : Clm} {P : Int}
    {z0 z1 z2 z6 z7 z8 z9 z10 z11 z12 z13 z14 z15 z16 z17 z18 z19 z20 z21 z22 z23 z24 z25 z26 z27 z28 z29 z30 z31 z32 z33 z34 z35 z36 z37 z38 z39 z40 z41 z42 z43 z44 z45 z46 z47 z48 z49 z50 z51 z52 z53 z54 z55 z56 z57 z58 z59 z60 z61 z62 z63 z64 z65 z66 z67 z68 z69 z70 z71 z72 : Value} (hN : N ≤ 8) (hC : Srcs V 4 (.slice A N cap) N C) (hD : Srcs V 1 (.slice DA N capD) N D)
    (s0 : V.cell? ⟨hA, 2, none⟩ = some (.slice A N cap)) (s1 : V.cell? ⟨hT, 1, none⟩ = some (.slice DA N capD)) (s2 : V.cell? ⟨hT, 0, none⟩ = some (.int .i64 P)) (s3 : V.cell? ⟨hF, 0, none⟩ = some (.string f.name)) (s4 : V.cell? ⟨hF, 1, none⟩ = some (.int .i64 f.rank)) (s5 : V.cell? ⟨hF, 2, none⟩ = some (.int .i64 f.lo)) (s6 : V.cell? ⟨hF, 3, none⟩ = some (.int .i64 f.hi))
    (hcall : ∀ W v39 v48, LiveB V W [some ⟨v39, 46, 4, 0 + N + 1, [] ++ C ++ [.string f.name, .int .i64 f.rank, .int .i64 f.lo, .int .i64 f.hi]⟩, none, some ⟨v48, 3, 1, 0 + N + 1, [] ++ D ++ [.int .i64 f.lo]⟩, none] → Calls Try.prog 76 #[v39, v48, .int .i64 P] W fun e W' => ∃ x y, e = .returned (.tuple #[x, y]) ∧ R x y W')
    (hRB : ∀ x y W', R x y W' → Below V.heap.size V W')
    (hQ : ∀ u32 u33 u34 u35 u36 u37 u38 u39 u40 u41 u42 u43 u44 u45 u46 u47 u48 u49 u50 u51 u52 u53 x y W', R x y W' → Q .normal ⟨#[z0, z1, z2, .pointer (some ⟨hA, 0, none⟩), .pointer (some ⟨hT, 0, none⟩), .pointer (some ⟨hF, 0, none⟩), z6, z7, z8, z9, z10, x, y, z13, z14, z15, z16, z17, z18, z19, z20, z21, z22, z23, z24, z25, z26, z27, z28, z29, z30, z31, u32, u33, u34, u35, u36, u37, u38, u39, u40, u41, u42, u43, u44, u45, u46, u47, u48, u49, u50, u51, u52, u53, z54, z55, z56, z57, z58, z59, z60, z61, z62, z63, z64, z65, z66, z67, z68, z69, z70, z71, z72], []⟩ W') :
    (regionOf Try.f31 5).wp Try.prog Q ⟨#[z0, z1, z2, .pointer (some ⟨hA, 0, none⟩), .pointer (some ⟨hT, 0, none⟩), .pointer (some ⟨hF, 0, none⟩), z6, z7, z8, z9, z10, z11, z12, z13, z14, z15, z16, z17, z18, z19, z20, z21, z22, z23, z24, z25, z26, z27, z28, z29, z30, z31, z32, z33, z34, z35, z36, z37, z38, z39, z40, z41, z42, z43, z44, z45, z46, z47, z48, z49, z50, z51, z52, z53, z54, z55, z56, z57, z58, z59, z60, z61, z62, z63, z64, z65, z66, z67, z68, z69, z70, z71, z72], []⟩ V := by
  have e : regionOf Try.f31 5 = Code.region 5 ops31_5 true := by kernel_rfl
  rw [e]
  refine wp_region_noPanic ?_
  obtain ⟨S, hSe⟩ : ∃ S : World → Prop, S = fun w' => w'.cell? ⟨hA, 2, none⟩ = some (.slice A N cap) ∧ w'.cell? ⟨hT, 1, none⟩ = some (.slice DA N capD) ∧ w'.cell? ⟨hT, 0, none⟩ = some (.int .i64 P) ∧ w'.cell? ⟨hF, 0, none⟩ = some (.string f.name) ∧ w'.cell? ⟨hF, 1, none⟩ = some (.int .i64 f.rank) ∧ w'.cell? ⟨hF, 2, none⟩ = some (.int .i64 f.lo) ∧ w'.cell? ⟨hF, 3, none⟩ = some (.int .i64 f.hi) := ⟨_, rfl⟩
  have hS : ∀ W', Below V.heap.size V W' → S W' := by
    intro W' hb
    rw [hSe]
    exact ⟨keepC hb s0, keepC hb s1, keepC hb s2, keepC hb s3, keepC hb s4, keepC hb s5, keepC hb s6⟩
  refine wp_region_held_drew (S := S) (by kernel_rfl) (hS _ liveB_start.1) (fun hHeld => ?_)
  have hsz : ops31_5.size = 24 := by kernel_rfl
  have hrep : Array.replicate 24 false = #[false, false, false, false, false, false, false, false, false, false, false, false, false, false, false, false, false, false, false, false, false, false, false, false] := by kernel_rfl
  rw [hsz, hrep]
  have hSe' : ∀ w', S w' → w'.cell? ⟨hA, 2, none⟩ = some (.slice A N cap) ∧ w'.cell? ⟨hT, 1, none⟩ = some (.slice DA N capD) ∧ w'.cell? ⟨hT, 0, none⟩ = some (.int .i64 P) ∧ w'.cell? ⟨hF, 0, none⟩ = some (.string f.name) ∧ w'.cell? ⟨hF, 1, none⟩ = some (.int .i64 f.rank) ∧ w'.cell? ⟨hF, 2, none⟩ = some (.int .i64 f.lo) ∧ w'.cell? ⟨hF, 3, none⟩ = some (.int .i64 f.hi) := by
    intro w' h
    rw [hSe] at h
    exact h
  obtain ⟨o, e0⟩ : ∃ o, o = opN ops31_5 1 := ⟨_, rfl⟩
  have e := e0
  conv at e => rhs; whnf
  refine wpAnyH_take (i := 1) (oi := o) (v := .pointer (some ⟨hA, 2, none⟩)) (by rw [e0]; kernel_rfl) (by kernel_rfl) (by kernel_rfl) (by kernel_rfl) (fun _ _ _ h => h) (Or.inl ⟨by rw [e]; rfl, ?_⟩) (by assumption) ?_
  · clear e0
    subst e
    intro w hSw
    have hSw := hSe' _ hSw
    obtain ⟨c0, c1, c2, c3, c4, c5, c6⟩ := hSw
    go_simp
  clear e0
  subst e
  (try simp only [Act.put, List.setIfInBounds_toArray, List.set_cons_zero, List.set_cons_succ])
  obtain ⟨o, e0⟩ : ∃ o, o = opN ops31_5 2 := ⟨_, rfl⟩
  have e := e0
  conv at e => rhs; whnf
  refine wpAnyH_take (i := 2) (oi := o) (v := .slice A N cap) (by rw [e0]; kernel_rfl) (by kernel_rfl) (by kernel_rfl) (by kernel_rfl) (fun _ _ _ h => h) (Or.inl ⟨by rw [e]; rfl, ?_⟩) (by assumption) ?_
  · clear e0
    subst e
    intro w hSw
    have hSw := hSe' _ hSw
    obtain ⟨c0, c1, c2, c3, c4, c5, c6⟩ := hSw
    go_simp
  clear e0
  subst e
  (try simp only [Act.put, List.setIfInBounds_toArray, List.set_cons_zero, List.set_cons_succ])
  obtain ⟨o, e0⟩ : ∃ o, o = opN ops31_5 4 := ⟨_, rfl⟩
  have e := e0
  conv at e => rhs; whnf
  refine wpAnyH_take (i := 4) (oi := o) (v := .agg #[.string f.name, .int .i64 f.rank, .int .i64 f.lo, .int .i64 f.hi]) (by rw [e0]; kernel_rfl) (by kernel_rfl) (by kernel_rfl) (by kernel_rfl) (fun _ _ _ h => h) (Or.inl ⟨by rw [e]; rfl, ?_⟩) (by assumption) ?_
  · clear e0
    subst e
    intro w hSw
    have hSw := hSe' _ hSw
    obtain ⟨c0, c1, c2, c3, c4, c5, c6⟩ := hSw
    go_simp
  clear e0
  subst e
  (try simp only [Act.put, List.setIfInBounds_toArray, List.set_cons_zero, List.set_cons_succ])
  obtain ⟨o, e0⟩ : ∃ o, o = opN ops31_5 8 := ⟨_, rfl⟩
  have e := e0
  conv at e => rhs; whnf
  refine wpAnyH_take (i := 8) (oi := o) (v := .pointer (some ⟨hT, 1, none⟩)) (by rw [e0]; kernel_rfl) (by kernel_rfl) (by kernel_rfl) (by kernel_rfl) (fun _ _ _ h => h) (Or.inl ⟨by rw [e]; rfl, ?_⟩) (by assumption) ?_
  · clear e0
    subst e
    intro w hSw
    have hSw := hSe' _ hSw
    obtain ⟨c0, c1, c2, c3, c4, c5, c6⟩ := hSw
    go_simp
  clear e0
  subst e
  (try simp only [Act.put, List.setIfInBounds_toArray, List.set_cons_zero, List.set_cons_succ])
  obtain ⟨o, e0⟩ : ∃ o, o = opN ops31_5 9 := ⟨_, rfl⟩
  have e := e0
  conv at e => rhs; whnf
  refine wpAnyH_take (i := 9) (oi := o) (v := .slice DA N capD) (by rw [e0]; kernel_rfl) (by kernel_rfl) (by kernel_rfl) (by kernel_rfl) (fun _ _ _ h => h) (Or.inl ⟨by rw [e]; rfl, ?_⟩) (by assumption) ?_
  · clear e0
    subst e
    intro w hSw
    have hSw := hSe' _ hSw
    obtain ⟨c0, c1, c2, c3, c4, c5, c6⟩ := hSw
    go_simp
  clear e0
  subst e
  (try simp only [Act.put, List.setIfInBounds_toArray, List.set_cons_zero, List.set_cons_succ])
  obtain ⟨o, e0⟩ : ∃ o, o = opN ops31_5 11 := ⟨_, rfl⟩
  have e := e0
  conv at e => rhs; whnf
  refine wpAnyH_take (i := 11) (oi := o) (v := .pointer (some ⟨hF, 2, none⟩)) (by rw [e0]; kernel_rfl) (by kernel_rfl) (by kernel_rfl) (by kernel_rfl) (fun _ _ _ h => h) (Or.inl ⟨by rw [e]; rfl, ?_⟩) (by assumption) ?_
  · clear e0
    subst e
    intro w hSw
    have hSw := hSe' _ hSw
    obtain ⟨c0, c1, c2, c3, c4, c5, c6⟩ := hSw
    go_simp
  clear e0
  subst e
  (try simp only [Act.put, List.setIfInBounds_toArray, List.set_cons_zero, List.set_cons_succ])
  obtain ⟨o, e0⟩ : ∃ o, o = opN ops31_5 12 := ⟨_, rfl⟩
  have e := e0
  conv at e => rhs; whnf
  refine wpAnyH_take (i := 12) (oi := o) (v := .pointer (some ⟨hF, 2, none⟩)) (by rw [e0]; kernel_rfl) (by kernel_rfl) (by kernel_rfl) (by kernel_rfl) (fun _ _ _ h => h) (Or.inl ⟨by rw [e]; rfl, ?_⟩) (by assumption) ?_
  · clear e0
    subst e
    intro w hSw
    have hSw := hSe' _ hSw
    obtain ⟨c0, c1, c2, c3, c4, c5, c6⟩ := hSw
    go_simp
  clear e0
  subst e
  (try simp only [Act.put, List.setIfInBounds_toArray, List.set_cons_zero, List.set_cons_succ])
  obtain ⟨o, e0⟩ : ∃ o, o = opN ops31_5 13 := ⟨_, rfl⟩
  have e := e0
  conv at e => rhs; whnf
  refine wpAnyH_take (i := 13) (oi := o) (v := .int .i64 f.lo) (by rw [e0]; kernel_rfl) (by kernel_rfl) (by kernel_rfl) (by kernel_rfl) (fun _ _ _ h => h) (Or.inl ⟨by rw [e]; rfl, ?_⟩) (by assumption) ?_
  · clear e0
    subst e
    intro w hSw
    have hSw := hSe' _ hSw
    obtain ⟨c0, c1, c2, c3, c4, c5, c6⟩ := hSw
    go_simp
  clear e0
  subst e
  (try simp only [Act.put, List.setIfInBounds_toArray, List.set_cons_zero, List.set_cons_succ])
  obtain ⟨o, e0⟩ : ∃ o, o = opN ops31_5 16 := ⟨_, rfl⟩
  have e := e0
  conv at e => rhs; whnf
  refine wpAnyH_take (i := 16) (oi := o) (v := .pointer (some ⟨hT, 0, none⟩)) (by rw [e0]; kernel_rfl) (by kernel_rfl) (by kernel_rfl) (by kernel_rfl) (fun _ _ _ h => h) (Or.inl ⟨by rw [e]; rfl, ?_⟩) (by assumption) ?_
  · clear e0
    subst e
    intro w hSw
    have hSw := hSe' _ hSw
    obtain ⟨c0, c1, c2, c3, c4, c5, c6⟩ := hSw
    go_simp
  clear e0
  subst e
  (try simp only [Act.put, List.setIfInBounds_toArray, List.set_cons_zero, List.set_cons_succ])
  obtain ⟨o, e0⟩ : ∃ o, o = opN ops31_5 17 := ⟨_, rfl⟩
  have e := e0
  conv at e => rhs; whnf
  refine wpAnyH_take (i := 17) (oi := o) (v := .int .i64 P) (by rw [e0]; kernel_rfl) (by kernel_rfl) (by kernel_rfl) (by kernel_rfl) (fun _ _ _ h => h) (Or.inl ⟨by rw [e]; rfl, ?_⟩) (by assumption) ?_
  · clear e0
    subst e
    intro w hSw
    have hSw := hSe' _ hSw
    obtain ⟨c0, c1, c2, c3, c4, c5, c6⟩ := hSw
    go_simp
  clear e0
  subst e
  (try simp only [Act.put, List.setIfInBounds_toArray, List.set_cons_zero, List.set_cons_succ])
  exact st31_e hS hN hC hD hcall hRB hQ liveB_start

end Go.Proofs.Ytblbbhenmhkknaa
