/- The reference's bad: its region, apart from its function (printed by mkK26.py). -/
import Derived.Deep.RegionHeld3
import Derived.Test.YtojgdallodmanaaZf22f08
import Derived.Test.YtojgdallodmanaaZ8049c1
import Derived.Test.YtojgdallodmanaaZ9acd8a
namespace Go.Proofs.Ytojgdallodmanaa
open Go.RowKit

noncomputable def ops82_5 : Array Oper := opsOf (regionOf Try.f82 5)
set_option maxRecDepth 1000000 in
set_option maxHeartbeats 4000000 in
theorem reg82_5f {Q : Exit → Act → World → Prop} {V : World} {g n cap m capJ b1 o1 i x ll capL sl c1 : Nat} {A J AL : Option Addr} {slo shi wi : Int} {z0 z2 z4 z5 z6 z9 z10 z11 z12 z13 z14 z15 z16 z17 z18 z19 z20 z21 z22 z23 z24 z25 z26 z27 z28 z29 z30 z31 z32 z33 z34 : Value} (hi : i < sl)
    (hS : ∀ W, Below V.heap.size V W → W.cell? ⟨g, 0, none⟩ = some (.slice A n cap) ∧ W.cell? ⟨g, 1, none⟩ = some (.slice J m capJ) ∧ W.cell? ⟨g, 2, none⟩ = some (.int .i64 slo) ∧ W.cell? ⟨g, 3, none⟩ = some (.int .i64 shi) ∧ W.cell? ⟨g, 4, none⟩ = some (.int .i64 wi) ∧ W.cell? ⟨b1, o1 + i, none⟩ = some (nv x))
    (h50 : ∀ W, Below V.heap.size V W → Calls Try.prog 50 #[.agg #[.slice A n cap, .slice J m capJ, .int .i64 slo, .int .i64 shi, .int .i64 wi], .int .i64 x] W fun e w' => e = .returned (.bool false) ∧ Below W.heap.size W w')
    (hQ : ∀ u17 u18 u19 u20 u21 u22 u23 u24 u25 u26 u27 u28 u29 u30 u31 u32 wx, Below V.heap.size V wx → Q .normal ⟨#[z0, .slice AL ll capL, z2, .pointer (some ⟨g, 0, none⟩), z4, z5, z6, .slice (some ⟨b1, o1, none⟩) sl c1, .int .i64 i, z9, z10, z11, z12, z13, z14, z15, z16, u17, u18, u19, u20, u21, u22, u23, u24, u25, u26, u27, u28, u29, u30, u31, u32, .bool (true), z34], []⟩ wx) :
    (regionOf Try.f82 5).wp Try.prog Q ⟨#[z0, .slice AL ll capL, z2, .pointer (some ⟨g, 0, none⟩), z4, z5, z6, .slice (some ⟨b1, o1, none⟩) sl c1, .int .i64 i, z9, z10, z11, z12, z13, z14, z15, z16, z17, z18, z19, z20, z21, z22, z23, z24, z25, z26, z27, z28, z29, z30, z31, z32, z33, z34], []⟩ V := by
  have HQ := Lib.hid hQ
  have HS := Lib.hid hS
  have H50 := Lib.hid h50
  skip
  have hk0 : (0 : Int) ≤ (i : Int) := by omega
  have hkz : (i : Int) < (sl : Int) := by omega
  have HB0 := Lib.hid (belowDq (belowR V))
  clear hQ hS h50 
  have e : regionOf Try.f82 5 = Code.region 5 ops82_5 true := by kernel_rfl
  rw [e]
  refine wp_region_noPanic ?_
  refine wp_region_held_drew (S := (fun W => W.cell? ⟨g, 0, none⟩ = some (.slice A n cap) ∧ W.cell? ⟨g, 1, none⟩ = some (.slice J m capJ) ∧ W.cell? ⟨g, 2, none⟩ = some (.int .i64 slo) ∧ W.cell? ⟨g, 3, none⟩ = some (.int .i64 shi) ∧ W.cell? ⟨g, 4, none⟩ = some (.int .i64 wi) ∧ W.cell? ⟨b1, o1 + i, none⟩ = some (nv x))) (by kernel_rfl) (HS.out _ HB0.out) (fun hHeld => ?_)
  have hsz : ops82_5.size = 17 := by kernel_rfl
  have hrep : Array.replicate 17 false = #[false, false, false, false, false, false, false, false, false, false, false, false, false, false, false, false, false] := by kernel_rfl
  rw [hsz, hrep]
  clear e hsz hrep
  generalize V.drew = V0 at HB0 hHeld ⊢
  obtain ⟨o, e0⟩ : ∃ o, o = opN ops82_5 0 := ⟨_, rfl⟩
  have e := e0
  conv at e => rhs; whnf
  refine wpAnyH_take (i := 0) (oi := o) (v := .agg #[.slice A n cap, .slice J m capJ, .int .i64 slo, .int .i64 shi, .int .i64 wi]) (by rw [e0]; kernel_rfl) (by kernel_rfl) (by kernel_rfl) (by kernel_rfl) (fun _ _ _ h => h) (Or.inl ⟨by rw [e]; first | rfl | kernel_rfl, ?_⟩) (by assumption) ?_
  · clear e0
    subst e
    intro w hSw
    obtain ⟨k0, k1, k2, k3, k4, k5⟩ := hSw
    go_simp
  clear e0
  subst e
  (try simp only [Act.put, List.setIfInBounds_toArray, List.set_cons_zero, List.set_cons_succ])
  obtain ⟨o, e0⟩ : ∃ o, o = opN ops82_5 1 := ⟨_, rfl⟩
  have e := e0
  conv at e => rhs; whnf
  refine wpAnyH_take (i := 1) (oi := o) (v := .slice (some ⟨b1, o1, none⟩) sl c1) (by rw [e0]; kernel_rfl) (by kernel_rfl) (by kernel_rfl) (by kernel_rfl) (fun _ _ _ h => h) (Or.inl ⟨by rw [e]; first | rfl | kernel_rfl, ?_⟩) (by assumption) ?_
  · clear e0
    subst e
    intro w hSw
    obtain ⟨k0, k1, k2, k3, k4, k5⟩ := hSw
    go_simp
  clear e0
  subst e
  (try simp only [Act.put, List.setIfInBounds_toArray, List.set_cons_zero, List.set_cons_succ])
  obtain ⟨o, e0⟩ : ∃ o, o = opN ops82_5 2 := ⟨_, rfl⟩
  have e := e0
  conv at e => rhs; whnf
  refine wpAnyH_take (i := 2) (oi := o) (v := .int .i64 (i : Int)) (by rw [e0]; kernel_rfl) (by kernel_rfl) (by kernel_rfl) (by kernel_rfl) (fun _ _ _ h => h) (Or.inl ⟨by rw [e]; first | rfl | kernel_rfl, ?_⟩) (by assumption) ?_
  · clear e0
    subst e
    intro w hSw
    obtain ⟨k0, k1, k2, k3, k4, k5⟩ := hSw
    go_simp
  clear e0
  subst e
  (try simp only [Act.put, List.setIfInBounds_toArray, List.set_cons_zero, List.set_cons_succ])
  obtain ⟨o, e0⟩ : ∃ o, o = opN ops82_5 3 := ⟨_, rfl⟩
  have e := e0
  conv at e => rhs; whnf
  refine wpAnyH_take (i := 3) (oi := o) (v := .pointer (some ⟨b1, o1 + i, none⟩)) (by rw [e0]; kernel_rfl) (by kernel_rfl) (by kernel_rfl) (by kernel_rfl) (fun _ _ _ h => h) (Or.inl ⟨by rw [e]; first | rfl | kernel_rfl, ?_⟩) (by assumption) ?_
  · clear e0
    subst e
    intro w hSw
    obtain ⟨k0, k1, k2, k3, k4, k5⟩ := hSw
    go_simp
  clear e0
  subst e
  (try simp only [Act.put, List.setIfInBounds_toArray, List.set_cons_zero, List.set_cons_succ])
  obtain ⟨o, e0⟩ : ∃ o, o = opN ops82_5 4 := ⟨_, rfl⟩
  have e := e0
  conv at e => rhs; whnf
  refine wpAnyH_take (i := 4) (oi := o) (v := nv x) (by rw [e0]; kernel_rfl) (by kernel_rfl) (by kernel_rfl) (by kernel_rfl) (fun _ _ _ h => h) (Or.inl ⟨by rw [e]; first | rfl | kernel_rfl, ?_⟩) (by assumption) ?_
  · clear e0
    subst e
    intro w hSw
    obtain ⟨k0, k1, k2, k3, k4, k5⟩ := hSw
    go_simp
  clear e0
  subst e
  (try simp only [Act.put, List.setIfInBounds_toArray, List.set_cons_zero, List.set_cons_succ])
  refine wpAnyH_ready (rs := [5]) (by kernel_rfl) (by simp) ?_
  refine AllReadyH.cons (o := opN ops82_5 5) (by kernel_rfl) (fun K hK => ?_) AllReadyH.nil
  obtain ⟨o, e⟩ : ∃ o, o = opN ops82_5 5 := ⟨_, rfl⟩
  rw [← e]
  conv at e => rhs; whnf
  subst e
  go_simp
  refine (H50.out _ HB0.out).mono ?_
  rintro e w5 ⟨rfl, hb⟩
  have HB5 := Lib.hid (belowT HB0.out hb)
  clear hb
  refine hK.out _ _ (HS.out _ HB5.out) (fun hHeld => ?_)
  clear hK
  (try simp only [List.setIfInBounds_toArray, List.set_cons_zero, List.set_cons_succ])
  obtain ⟨o, e0⟩ : ∃ o, o = opN ops82_5 6 := ⟨_, rfl⟩
  have e := e0
  conv at e => rhs; whnf
  refine wpAnyH_take (i := 6) (oi := o) (v := .bool true) (by rw [e0]; kernel_rfl) (by kernel_rfl) (by kernel_rfl) (by kernel_rfl) (fun _ _ _ h => h) (Or.inl ⟨by rw [e]; first | rfl | kernel_rfl, ?_⟩) (by assumption) ?_
  · clear e0
    subst e
    intro w hSw
    obtain ⟨k0, k1, k2, k3, k4, k5⟩ := hSw
    go_simp
  clear e0
  subst e
  (try simp only [Act.put, List.setIfInBounds_toArray, List.set_cons_zero, List.set_cons_succ])
  obtain ⟨o, e0⟩ : ∃ o, o = opN ops82_5 7 := ⟨_, rfl⟩
  have e := e0
  conv at e => rhs; whnf
  refine wpAnyH_take (i := 7) (oi := o) (v := .bool true) (by rw [e0]; kernel_rfl) (by kernel_rfl) (by kernel_rfl) (by kernel_rfl) (fun _ _ _ h => h) (Or.inl ⟨by rw [e]; first | rfl | kernel_rfl, ?_⟩) (by assumption) ?_
  · clear e0
    subst e
    intro w hSw
    obtain ⟨k0, k1, k2, k3, k4, k5⟩ := hSw
    go_simp
  clear e0
  subst e
  (try simp only [Act.put, List.setIfInBounds_toArray, List.set_cons_zero, List.set_cons_succ])
  obtain ⟨o, e0⟩ : ∃ o, o = opN ops82_5 8 := ⟨_, rfl⟩
  have e := e0
  conv at e => rhs; whnf
  refine wpAnyH_take (i := 8) (oi := o) (v := undef) (by rw [e0]; kernel_rfl) (by kernel_rfl) (by kernel_rfl) (by kernel_rfl) (fun _ _ _ h => h) (Or.inr ⟨by rw [e]; first | rfl | kernel_rfl, rfl⟩) (by assumption) ?_
  clear e0
  subst e
  (try simp only [Act.put, List.setIfInBounds_toArray, List.set_cons_zero, List.set_cons_succ])
  obtain ⟨o, e0⟩ : ∃ o, o = opN ops82_5 9 := ⟨_, rfl⟩
  have e := e0
  conv at e => rhs; whnf
  refine wpAnyH_take (i := 9) (oi := o) (v := undef) (by rw [e0]; kernel_rfl) (by kernel_rfl) (by kernel_rfl) (by kernel_rfl) (fun _ _ _ h => h) (Or.inr ⟨by rw [e]; first | rfl | kernel_rfl, rfl⟩) (by assumption) ?_
  clear e0
  subst e
  (try simp only [Act.put, List.setIfInBounds_toArray, List.set_cons_zero, List.set_cons_succ])
  obtain ⟨o, e0⟩ : ∃ o, o = opN ops82_5 10 := ⟨_, rfl⟩
  have e := e0
  conv at e => rhs; whnf
  refine wpAnyH_take (i := 10) (oi := o) (v := undef) (by rw [e0]; kernel_rfl) (by kernel_rfl) (by kernel_rfl) (by kernel_rfl) (fun _ _ _ h => h) (Or.inr ⟨by rw [e]; first | rfl | kernel_rfl, rfl⟩) (by assumption) ?_
  clear e0
  subst e
  (try simp only [Act.put, List.setIfInBounds_toArray, List.set_cons_zero, List.set_cons_succ])
  obtain ⟨o, e0⟩ : ∃ o, o = opN ops82_5 11 := ⟨_, rfl⟩
  have e := e0
  conv at e => rhs; whnf
  refine wpAnyH_take (i := 11) (oi := o) (v := undef) (by rw [e0]; kernel_rfl) (by kernel_rfl) (by kernel_rfl) (by kernel_rfl) (fun _ _ _ h => h) (Or.inr ⟨by rw [e]; first | rfl | kernel_rfl, rfl⟩) (by assumption) ?_
  clear e0
  subst e
  (try simp only [Act.put, List.setIfInBounds_toArray, List.set_cons_zero, List.set_cons_succ])
  obtain ⟨o, e0⟩ : ∃ o, o = opN ops82_5 12 := ⟨_, rfl⟩
  have e := e0
  conv at e => rhs; whnf
  refine wpAnyH_take (i := 12) (oi := o) (v := undef) (by rw [e0]; kernel_rfl) (by kernel_rfl) (by kernel_rfl) (by kernel_rfl) (fun _ _ _ h => h) (Or.inr ⟨by rw [e]; first | rfl | kernel_rfl, rfl⟩) (by assumption) ?_
  clear e0
  subst e
  (try simp only [Act.put, List.setIfInBounds_toArray, List.set_cons_zero, List.set_cons_succ])
  obtain ⟨o, e0⟩ : ∃ o, o = opN ops82_5 13 := ⟨_, rfl⟩
  have e := e0
  conv at e => rhs; whnf
  refine wpAnyH_take (i := 13) (oi := o) (v := undef) (by rw [e0]; kernel_rfl) (by kernel_rfl) (by kernel_rfl) (by kernel_rfl) (fun _ _ _ h => h) (Or.inr ⟨by rw [e]; first | rfl | kernel_rfl, rfl⟩) (by assumption) ?_
  clear e0
  subst e
  (try simp only [Act.put, List.setIfInBounds_toArray, List.set_cons_zero, List.set_cons_succ])
  obtain ⟨o, e0⟩ : ∃ o, o = opN ops82_5 14 := ⟨_, rfl⟩
  have e := e0
  conv at e => rhs; whnf
  refine wpAnyH_take (i := 14) (oi := o) (v := undef) (by rw [e0]; kernel_rfl) (by kernel_rfl) (by kernel_rfl) (by kernel_rfl) (fun _ _ _ h => h) (Or.inr ⟨by rw [e]; first | rfl | kernel_rfl, rfl⟩) (by assumption) ?_
  clear e0
  subst e
  (try simp only [Act.put, List.setIfInBounds_toArray, List.set_cons_zero, List.set_cons_succ])
  obtain ⟨o, e0⟩ : ∃ o, o = opN ops82_5 15 := ⟨_, rfl⟩
  have e := e0
  conv at e => rhs; whnf
  refine wpAnyH_take (i := 15) (oi := o) (v := undef) (by rw [e0]; kernel_rfl) (by kernel_rfl) (by kernel_rfl) (by kernel_rfl) (fun _ _ _ h => h) (Or.inr ⟨by rw [e]; first | rfl | kernel_rfl, rfl⟩) (by assumption) ?_
  clear e0
  subst e
  (try simp only [Act.put, List.setIfInBounds_toArray, List.set_cons_zero, List.set_cons_succ])
  obtain ⟨o, e0⟩ : ∃ o, o = opN ops82_5 16 := ⟨_, rfl⟩
  have e := e0
  conv at e => rhs; whnf
  refine wpAnyH_take (i := 16) (oi := o) (v := .bool true) (by rw [e0]; kernel_rfl) (by kernel_rfl) (by kernel_rfl) (by kernel_rfl) (fun _ _ _ h => h) (Or.inl ⟨by rw [e]; first | rfl | kernel_rfl, ?_⟩) (by assumption) ?_
  · clear e0
    subst e
    intro w hSw
    obtain ⟨k0, k1, k2, k3, k4, k5⟩ := hSw
    go_simp
  clear e0
  subst e
  (try simp only [Act.put, List.setIfInBounds_toArray, List.set_cons_zero, List.set_cons_succ])
  refine wpAnyH_done (by kernel_rfl) ?_ _
  exact NoPanic.normal (HQ.out _ _ _ _ _ _ _ _ _ _ _ _ _ _ _ _ _ HB5.out)

set_option maxRecDepth 1000000 in
set_option maxHeartbeats 4000000 in
theorem reg82_5t {Q : Exit → Act → World → Prop} {V : World} {g n cap m capJ b1 o1 i x ll capL sl c1 : Nat} {A J AL : Option Addr} {slo shi wi : Int} {g2 : Bool} {z0 z2 z4 z5 z6 z9 z10 z11 z12 z13 z14 z15 z16 z17 z18 z19 z20 z21 z22 z23 z24 z25 z26 z27 z28 z29 z30 z31 z32 z33 z34 : Value} (hi : i < sl)
    (hS : ∀ W, Below V.heap.size V W → W.cell? ⟨g, 0, none⟩ = some (.slice A n cap) ∧ W.cell? ⟨g, 1, none⟩ = some (.slice J m capJ) ∧ W.cell? ⟨g, 2, none⟩ = some (.int .i64 slo) ∧ W.cell? ⟨g, 3, none⟩ = some (.int .i64 shi) ∧ W.cell? ⟨g, 4, none⟩ = some (.int .i64 wi) ∧ W.cell? ⟨b1, o1 + i, none⟩ = some (nv x))
    (h50 : ∀ W, Below V.heap.size V W → Calls Try.prog 50 #[.agg #[.slice A n cap, .slice J m capJ, .int .i64 slo, .int .i64 shi, .int .i64 wi], .int .i64 x] W fun e w' => e = .returned (.bool true) ∧ Below W.heap.size W w')
    (h112 : ∀ W, Below V.heap.size V W → Calls Try.prog 112 #[.agg #[.slice A n cap, .slice J m capJ, .int .i64 slo, .int .i64 shi, .int .i64 wi], .slice AL ll capL, .int .i64 x] W fun e w' => e = .returned (.bool g2) ∧ Below W.heap.size W w')
    (hQ : ∀ u17 u18 u19 u20 u21 u22 u23 u24 u25 u26 u27 u28 u29 u30 u31 u32 wx, Below V.heap.size V wx → Q .normal ⟨#[z0, .slice AL ll capL, z2, .pointer (some ⟨g, 0, none⟩), z4, z5, z6, .slice (some ⟨b1, o1, none⟩) sl c1, .int .i64 i, z9, z10, z11, z12, z13, z14, z15, z16, u17, u18, u19, u20, u21, u22, u23, u24, u25, u26, u27, u28, u29, u30, u31, u32, .bool (!g2), z34], []⟩ wx) :
    (regionOf Try.f82 5).wp Try.prog Q ⟨#[z0, .slice AL ll capL, z2, .pointer (some ⟨g, 0, none⟩), z4, z5, z6, .slice (some ⟨b1, o1, none⟩) sl c1, .int .i64 i, z9, z10, z11, z12, z13, z14, z15, z16, z17, z18, z19, z20, z21, z22, z23, z24, z25, z26, z27, z28, z29, z30, z31, z32, z33, z34], []⟩ V := by
  have HQ := Lib.hid hQ
  have HS := Lib.hid hS
  have H50 := Lib.hid h50
  have H112 := Lib.hid h112
  have hk0 : (0 : Int) ≤ (i : Int) := by omega
  have hkz : (i : Int) < (sl : Int) := by omega
  have HB0 := Lib.hid (belowDq (belowR V))
  clear hQ hS h50 h112
  have e : regionOf Try.f82 5 = Code.region 5 ops82_5 true := by kernel_rfl
  rw [e]
  refine wp_region_noPanic ?_
  refine wp_region_held_drew (S := (fun W => W.cell? ⟨g, 0, none⟩ = some (.slice A n cap) ∧ W.cell? ⟨g, 1, none⟩ = some (.slice J m capJ) ∧ W.cell? ⟨g, 2, none⟩ = some (.int .i64 slo) ∧ W.cell? ⟨g, 3, none⟩ = some (.int .i64 shi) ∧ W.cell? ⟨g, 4, none⟩ = some (.int .i64 wi) ∧ W.cell? ⟨b1, o1 + i, none⟩ = some (nv x))) (by kernel_rfl) (HS.out _ HB0.out) (fun hHeld => ?_)
  have hsz : ops82_5.size = 17 := by kernel_rfl
  have hrep : Array.replicate 17 false = #[false, false, false, false, false, false, false, false, false, false, false, false, false, false, false, false, false] := by kernel_rfl
  rw [hsz, hrep]
  clear e hsz hrep
  generalize V.drew = V0 at HB0 hHeld ⊢
  obtain ⟨o, e0⟩ : ∃ o, o = opN ops82_5 0 := ⟨_, rfl⟩
  have e := e0
  conv at e => rhs; whnf
  refine wpAnyH_take (i := 0) (oi := o) (v := .agg #[.slice A n cap, .slice J m capJ, .int .i64 slo, .int .i64 shi, .int .i64 wi]) (by rw [e0]; kernel_rfl) (by kernel_rfl) (by kernel_rfl) (by kernel_rfl) (fun _ _ _ h => h) (Or.inl ⟨by rw [e]; first | rfl | kernel_rfl, ?_⟩) (by assumption) ?_
  · clear e0
    subst e
    intro w hSw
    obtain ⟨k0, k1, k2, k3, k4, k5⟩ := hSw
    go_simp
  clear e0
  subst e
  (try simp only [Act.put, List.setIfInBounds_toArray, List.set_cons_zero, List.set_cons_succ])
  obtain ⟨o, e0⟩ : ∃ o, o = opN ops82_5 1 := ⟨_, rfl⟩
  have e := e0
  conv at e => rhs; whnf
  refine wpAnyH_take (i := 1) (oi := o) (v := .slice (some ⟨b1, o1, none⟩) sl c1) (by rw [e0]; kernel_rfl) (by kernel_rfl) (by kernel_rfl) (by kernel_rfl) (fun _ _ _ h => h) (Or.inl ⟨by rw [e]; first | rfl | kernel_rfl, ?_⟩) (by assumption) ?_
  · clear e0
    subst e
    intro w hSw
    obtain ⟨k0, k1, k2, k3, k4, k5⟩ := hSw
    go_simp
  clear e0
  subst e
  (try simp only [Act.put, List.setIfInBounds_toArray, List.set_cons_zero, List.set_cons_succ])
  obtain ⟨o, e0⟩ : ∃ o, o = opN ops82_5 2 := ⟨_, rfl⟩
  have e := e0
  conv at e => rhs; whnf
  refine wpAnyH_take (i := 2) (oi := o) (v := .int .i64 (i : Int)) (by rw [e0]; kernel_rfl) (by kernel_rfl) (by kernel_rfl) (by kernel_rfl) (fun _ _ _ h => h) (Or.inl ⟨by rw [e]; first | rfl | kernel_rfl, ?_⟩) (by assumption) ?_
  · clear e0
    subst e
    intro w hSw
    obtain ⟨k0, k1, k2, k3, k4, k5⟩ := hSw
    go_simp
  clear e0
  subst e
  (try simp only [Act.put, List.setIfInBounds_toArray, List.set_cons_zero, List.set_cons_succ])
  obtain ⟨o, e0⟩ : ∃ o, o = opN ops82_5 3 := ⟨_, rfl⟩
  have e := e0
  conv at e => rhs; whnf
  refine wpAnyH_take (i := 3) (oi := o) (v := .pointer (some ⟨b1, o1 + i, none⟩)) (by rw [e0]; kernel_rfl) (by kernel_rfl) (by kernel_rfl) (by kernel_rfl) (fun _ _ _ h => h) (Or.inl ⟨by rw [e]; first | rfl | kernel_rfl, ?_⟩) (by assumption) ?_
  · clear e0
    subst e
    intro w hSw
    obtain ⟨k0, k1, k2, k3, k4, k5⟩ := hSw
    go_simp
  clear e0
  subst e
  (try simp only [Act.put, List.setIfInBounds_toArray, List.set_cons_zero, List.set_cons_succ])
  obtain ⟨o, e0⟩ : ∃ o, o = opN ops82_5 4 := ⟨_, rfl⟩
  have e := e0
  conv at e => rhs; whnf
  refine wpAnyH_take (i := 4) (oi := o) (v := nv x) (by rw [e0]; kernel_rfl) (by kernel_rfl) (by kernel_rfl) (by kernel_rfl) (fun _ _ _ h => h) (Or.inl ⟨by rw [e]; first | rfl | kernel_rfl, ?_⟩) (by assumption) ?_
  · clear e0
    subst e
    intro w hSw
    obtain ⟨k0, k1, k2, k3, k4, k5⟩ := hSw
    go_simp
  clear e0
  subst e
  (try simp only [Act.put, List.setIfInBounds_toArray, List.set_cons_zero, List.set_cons_succ])
  refine wpAnyH_ready (rs := [5]) (by kernel_rfl) (by simp) ?_
  refine AllReadyH.cons (o := opN ops82_5 5) (by kernel_rfl) (fun K hK => ?_) AllReadyH.nil
  obtain ⟨o, e⟩ : ∃ o, o = opN ops82_5 5 := ⟨_, rfl⟩
  rw [← e]
  conv at e => rhs; whnf
  subst e
  go_simp
  refine (H50.out _ HB0.out).mono ?_
  rintro e w5 ⟨rfl, hb⟩
  have HB5 := Lib.hid (belowT HB0.out hb)
  clear hb
  refine hK.out _ _ (HS.out _ HB5.out) (fun hHeld => ?_)
  clear hK
  (try simp only [List.setIfInBounds_toArray, List.set_cons_zero, List.set_cons_succ])
  obtain ⟨o, e0⟩ : ∃ o, o = opN ops82_5 6 := ⟨_, rfl⟩
  have e := e0
  conv at e => rhs; whnf
  refine wpAnyH_take (i := 6) (oi := o) (v := .bool false) (by rw [e0]; kernel_rfl) (by kernel_rfl) (by kernel_rfl) (by kernel_rfl) (fun _ _ _ h => h) (Or.inl ⟨by rw [e]; first | rfl | kernel_rfl, ?_⟩) (by assumption) ?_
  · clear e0
    subst e
    intro w hSw
    obtain ⟨k0, k1, k2, k3, k4, k5⟩ := hSw
    go_simp
  clear e0
  subst e
  (try simp only [Act.put, List.setIfInBounds_toArray, List.set_cons_zero, List.set_cons_succ])
  obtain ⟨o, e0⟩ : ∃ o, o = opN ops82_5 7 := ⟨_, rfl⟩
  have e := e0
  conv at e => rhs; whnf
  refine wpAnyH_take (i := 7) (oi := o) (v := .bool false) (by rw [e0]; kernel_rfl) (by kernel_rfl) (by kernel_rfl) (by kernel_rfl) (fun _ _ _ h => h) (Or.inl ⟨by rw [e]; first | rfl | kernel_rfl, ?_⟩) (by assumption) ?_
  · clear e0
    subst e
    intro w hSw
    obtain ⟨k0, k1, k2, k3, k4, k5⟩ := hSw
    go_simp
  clear e0
  subst e
  (try simp only [Act.put, List.setIfInBounds_toArray, List.set_cons_zero, List.set_cons_succ])
  obtain ⟨o, e0⟩ : ∃ o, o = opN ops82_5 8 := ⟨_, rfl⟩
  have e := e0
  conv at e => rhs; whnf
  refine wpAnyH_take (i := 8) (oi := o) (v := .agg #[.slice A n cap, .slice J m capJ, .int .i64 slo, .int .i64 shi, .int .i64 wi]) (by rw [e0]; kernel_rfl) (by kernel_rfl) (by kernel_rfl) (by kernel_rfl) (fun _ _ _ h => h) (Or.inl ⟨by rw [e]; first | rfl | kernel_rfl, ?_⟩) (by assumption) ?_
  · clear e0
    subst e
    intro w hSw
    obtain ⟨k0, k1, k2, k3, k4, k5⟩ := hSw
    go_simp
  clear e0
  subst e
  (try simp only [Act.put, List.setIfInBounds_toArray, List.set_cons_zero, List.set_cons_succ])
  obtain ⟨o, e0⟩ : ∃ o, o = opN ops82_5 9 := ⟨_, rfl⟩
  have e := e0
  conv at e => rhs; whnf
  refine wpAnyH_take (i := 9) (oi := o) (v := .slice AL ll capL) (by rw [e0]; kernel_rfl) (by kernel_rfl) (by kernel_rfl) (by kernel_rfl) (fun _ _ _ h => h) (Or.inl ⟨by rw [e]; first | rfl | kernel_rfl, ?_⟩) (by assumption) ?_
  · clear e0
    subst e
    intro w hSw
    obtain ⟨k0, k1, k2, k3, k4, k5⟩ := hSw
    go_simp
  clear e0
  subst e
  (try simp only [Act.put, List.setIfInBounds_toArray, List.set_cons_zero, List.set_cons_succ])
  obtain ⟨o, e0⟩ : ∃ o, o = opN ops82_5 10 := ⟨_, rfl⟩
  have e := e0
  conv at e => rhs; whnf
  refine wpAnyH_take (i := 10) (oi := o) (v := .slice (some ⟨b1, o1, none⟩) sl c1) (by rw [e0]; kernel_rfl) (by kernel_rfl) (by kernel_rfl) (by kernel_rfl) (fun _ _ _ h => h) (Or.inl ⟨by rw [e]; first | rfl | kernel_rfl, ?_⟩) (by assumption) ?_
  · clear e0
    subst e
    intro w hSw
    obtain ⟨k0, k1, k2, k3, k4, k5⟩ := hSw
    go_simp
  clear e0
  subst e
  (try simp only [Act.put, List.setIfInBounds_toArray, List.set_cons_zero, List.set_cons_succ])
  obtain ⟨o, e0⟩ : ∃ o, o = opN ops82_5 11 := ⟨_, rfl⟩
  have e := e0
  conv at e => rhs; whnf
  refine wpAnyH_take (i := 11) (oi := o) (v := .int .i64 (i : Int)) (by rw [e0]; kernel_rfl) (by kernel_rfl) (by kernel_rfl) (by kernel_rfl) (fun _ _ _ h => h) (Or.inl ⟨by rw [e]; first | rfl | kernel_rfl, ?_⟩) (by assumption) ?_
  · clear e0
    subst e
    intro w hSw
    obtain ⟨k0, k1, k2, k3, k4, k5⟩ := hSw
    go_simp
  clear e0
  subst e
  (try simp only [Act.put, List.setIfInBounds_toArray, List.set_cons_zero, List.set_cons_succ])
  obtain ⟨o, e0⟩ : ∃ o, o = opN ops82_5 12 := ⟨_, rfl⟩
  have e := e0
  conv at e => rhs; whnf
  refine wpAnyH_take (i := 12) (oi := o) (v := .pointer (some ⟨b1, o1 + i, none⟩)) (by rw [e0]; kernel_rfl) (by kernel_rfl) (by kernel_rfl) (by kernel_rfl) (fun _ _ _ h => h) (Or.inl ⟨by rw [e]; first | rfl | kernel_rfl, ?_⟩) (by assumption) ?_
  · clear e0
    subst e
    intro w hSw
    obtain ⟨k0, k1, k2, k3, k4, k5⟩ := hSw
    go_simp
  clear e0
  subst e
  (try simp only [Act.put, List.setIfInBounds_toArray, List.set_cons_zero, List.set_cons_succ])
  obtain ⟨o, e0⟩ : ∃ o, o = opN ops82_5 13 := ⟨_, rfl⟩
  have e := e0
  conv at e => rhs; whnf
  refine wpAnyH_take (i := 13) (oi := o) (v := nv x) (by rw [e0]; kernel_rfl) (by kernel_rfl) (by kernel_rfl) (by kernel_rfl) (fun _ _ _ h => h) (Or.inl ⟨by rw [e]; first | rfl | kernel_rfl, ?_⟩) (by assumption) ?_
  · clear e0
    subst e
    intro w hSw
    obtain ⟨k0, k1, k2, k3, k4, k5⟩ := hSw
    go_simp
  clear e0
  subst e
  (try simp only [Act.put, List.setIfInBounds_toArray, List.set_cons_zero, List.set_cons_succ])
  refine wpAnyH_ready (rs := [14]) (by kernel_rfl) (by simp) ?_
  refine AllReadyH.cons (o := opN ops82_5 14) (by kernel_rfl) (fun K hK => ?_) AllReadyH.nil
  obtain ⟨o, e⟩ : ∃ o, o = opN ops82_5 14 := ⟨_, rfl⟩
  rw [← e]
  conv at e => rhs; whnf
  subst e
  go_simp
  refine (H112.out _ HB5.out).mono ?_
  rintro e w14 ⟨rfl, hb⟩
  have HB14 := Lib.hid (belowT HB5.out hb)
  clear hb
  refine hK.out _ _ (HS.out _ HB14.out) (fun hHeld => ?_)
  clear hK
  (try simp only [List.setIfInBounds_toArray, List.set_cons_zero, List.set_cons_succ])
  obtain ⟨o, e0⟩ : ∃ o, o = opN ops82_5 15 := ⟨_, rfl⟩
  have e := e0
  conv at e => rhs; whnf
  refine wpAnyH_take (i := 15) (oi := o) (v := .bool (!g2)) (by rw [e0]; kernel_rfl) (by kernel_rfl) (by kernel_rfl) (by kernel_rfl) (fun _ _ _ h => h) (Or.inl ⟨by rw [e]; first | rfl | kernel_rfl, ?_⟩) (by assumption) ?_
  · clear e0
    subst e
    intro w hSw
    obtain ⟨k0, k1, k2, k3, k4, k5⟩ := hSw
    go_simp
  clear e0
  subst e
  (try simp only [Act.put, List.setIfInBounds_toArray, List.set_cons_zero, List.set_cons_succ])
  obtain ⟨o, e0⟩ : ∃ o, o = opN ops82_5 16 := ⟨_, rfl⟩
  have e := e0
  conv at e => rhs; whnf
  refine wpAnyH_take (i := 16) (oi := o) (v := .bool (!g2)) (by rw [e0]; kernel_rfl) (by kernel_rfl) (by kernel_rfl) (by kernel_rfl) (fun _ _ _ h => h) (Or.inl ⟨by rw [e]; first | rfl | kernel_rfl, ?_⟩) (by assumption) ?_
  · clear e0
    subst e
    intro w hSw
    obtain ⟨k0, k1, k2, k3, k4, k5⟩ := hSw
    go_simp
  clear e0
  subst e
  (try simp only [Act.put, List.setIfInBounds_toArray, List.set_cons_zero, List.set_cons_succ])
  refine wpAnyH_done (by kernel_rfl) ?_ _
  exact NoPanic.normal (HQ.out _ _ _ _ _ _ _ _ _ _ _ _ _ _ _ _ _ HB14.out)

end Go.Proofs.Ytojgdallodmanaa
