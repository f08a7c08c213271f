/- The reference's Blocks: its drawn region (printed by mkK3.py). The reference's Cut and Blocks, at the cuts that the program finds. How many blocks a cut makes (the law's own count). What is stronger, drier or lighter needs no more blocks: the plain law. No program is named here. How heavy the heaviest block has to be, and the cuts: the plain law. No program is named here. The reference's cuts in their order, the first of the fewest, the cut whose heaviest block is lightest: the plain law. No program is named here. -/
import Derived.Deep.DeepCutAuto
import Derived.Test.YtojgdallodmanaaZf22f08
import Derived.Test.YtojgdallodmanaaZ716ab2
import Derived.Test.YtojgdallodmanaaYH5
import Derived.Test.YtojgdallodmanaaZ9dec06
namespace Go.Proofs.Ytojgdallodmanaa
open Go.RowKit

noncomputable def ops49_7 : Array Oper := opsOf (regionOf Try.f49 7)
set_option maxRecDepth 100000 in
set_option maxHeartbeats 8000000 in
theorem reg49_7 {Q : Exit → Act → World → Prop} {V : World} {b1 o1 n c2 g m c9 k x y P : Nat} {z1 z2 z5 z6 z7 z8 z9 z10 z11 z12 z13 z14 z15 z16 z17 z18 z19 z20 z21 z22 z23 z24 z25 z26 z27 z28 z29 z30 z31 z32 z33 z34 z35 z36 z37 : Value} (hkn : k < n) (hxm : x < m) (hk8 : k ≤ 8) (hP : 2 ^ k = P) (hy : y < 256) (hP2 : P < 256) (hne : b1 ≠ g) (h0 : V.cell? ⟨b1, o1 + k, none⟩ = some (.int .i64 (x : Int))) (h1 : V.cell? ⟨g, x, none⟩ = some (.int .i64 (y : Int))) (h2 : V.frozen? ⟨g, x, none⟩ = false)
    (hQ : ∀  u21 u22 u23 u24 u25 u26 u27 u28 u29 u30 u31 u32 u33 u34 u35 u36 wx, wx = V.drew.setCell ⟨g, x, none⟩ (.int .i64 ((y + P : Nat) : Int)) → Q .normal ⟨#[.slice (some ⟨b1, o1, none⟩) n c2, z1, z2, .slice (some ⟨g, 0, none⟩) m c9, .int .i64 k, z5, z6, z7, z8, z9, z10, z11, z12, z13, z14, z15, z16, z17, z18, z19, z20, u21, u22, u23, u24, u25, u26, u27, u28, u29, u30, u31, u32, u33, u34, u35, u36, z37], []⟩ wx) :
    (regionOf Try.f49 7).wp Try.prog Q ⟨#[.slice (some ⟨b1, o1, none⟩) n c2, z1, z2, .slice (some ⟨g, 0, none⟩) m c9, .int .i64 k, z5, z6, z7, z8, z9, z10, z11, z12, z13, z14, z15, z16, z17, z18, z19, z20, z21, z22, z23, z24, z25, z26, z27, z28, z29, z30, z31, z32, z33, z34, z35, z36, z37], []⟩ V := by
  have e : regionOf Try.f49 7 = Code.region 7 ops49_7 true := by kernel_rfl
  rw [e]
  have hk0 : (0 : Int) ≤ (k : Int) := by omega
  have hkz : (k : Int) < (n : Int) := by omega
  have hx0 : (0 : Int) ≤ (x : Int) := by omega
  have hxz : (x : Int) < (m : Int) := by omega
  have hw1 : IntKind.i64.wrap ((y : Int) + (P : Int)) = ((y + P : Nat) : Int) := by rw [IntKind.wrap_i64]; omega
  have hHeld : (fun W => W.cell? ⟨b1, o1 + k, none⟩ = some (.int .i64 (x : Int))) V.drew := h0
  have hc2 : (fun W => W.cell? ⟨b1, o1 + k, none⟩ = some (.int .i64 (x : Int))) (V.drew.setCell ⟨g, x, none⟩ (.int .i64 ((y + P : Nat) : Int))) := keepSet h0 hne
  have h1 : V.drew.cell? ⟨g, x, none⟩ = some (.int .i64 (y : Int)) := h1
  have h2 : V.drew.frozen? ⟨g, x, none⟩ = false := h2
  refine wp_region_noPanic ?_
  refine wp_region_held_drew (S := (fun W => W.cell? ⟨b1, o1 + k, none⟩ = some (.int .i64 (x : Int)))) (by kernel_rfl) hHeld (fun _ => ?_)
  have hsz : ops49_7.size = 17 := by kernel_rfl
  have hrep : Array.replicate 17 false = #[false, false, false, false, false, false, false, false, false, false, false, false, false, false, false, false, false] := by kernel_rfl
  rw [hsz, hrep]
  clear e hsz hrep
  obtain ⟨o, e0⟩ : ∃ o, o = opN ops49_7 0 := ⟨_, rfl⟩
  have e := e0
  conv at e => rhs; whnf
  refine wpAnyH_take (i := 0) (oi := o) (v := .slice (some ⟨g, 0, none⟩) m c9) (by rw [e0]; kernel_rfl) (by kernel_rfl) (by kernel_rfl) (by kernel_rfl) (fun _ _ _ h => h) (Or.inl ⟨by rw [e]; rfl, ?_⟩) (by assumption) ?_
  · clear e0
    subst e
    intro w hSw
    have k0 : w.cell? ⟨b1, o1 + k, none⟩ = some (.int .i64 (x : Int)) := hSw
    go_simp
  clear e0
  subst e
  (try simp only [Act.put, List.setIfInBounds_toArray, List.set_cons_zero, List.set_cons_succ])
  obtain ⟨o, e0⟩ : ∃ o, o = opN ops49_7 1 := ⟨_, rfl⟩
  have e := e0
  conv at e => rhs; whnf
  refine wpAnyH_take (i := 1) (oi := o) (v := .slice (some ⟨b1, o1, none⟩) n c2) (by rw [e0]; kernel_rfl) (by kernel_rfl) (by kernel_rfl) (by kernel_rfl) (fun _ _ _ h => h) (Or.inl ⟨by rw [e]; rfl, ?_⟩) (by assumption) ?_
  · clear e0
    subst e
    intro w hSw
    have k0 : w.cell? ⟨b1, o1 + k, none⟩ = some (.int .i64 (x : Int)) := hSw
    go_simp
  clear e0
  subst e
  (try simp only [Act.put, List.setIfInBounds_toArray, List.set_cons_zero, List.set_cons_succ])
  obtain ⟨o, e0⟩ : ∃ o, o = opN ops49_7 2 := ⟨_, rfl⟩
  have e := e0
  conv at e => rhs; whnf
  refine wpAnyH_take (i := 2) (oi := o) (v := .int .i64 k) (by rw [e0]; kernel_rfl) (by kernel_rfl) (by kernel_rfl) (by kernel_rfl) (fun _ _ _ h => h) (Or.inl ⟨by rw [e]; rfl, ?_⟩) (by assumption) ?_
  · clear e0
    subst e
    intro w hSw
    have k0 : w.cell? ⟨b1, o1 + k, none⟩ = some (.int .i64 (x : Int)) := hSw
    go_simp
  clear e0
  subst e
  (try simp only [Act.put, List.setIfInBounds_toArray, List.set_cons_zero, List.set_cons_succ])
  obtain ⟨o, e0⟩ : ∃ o, o = opN ops49_7 3 := ⟨_, rfl⟩
  have e := e0
  conv at e => rhs; whnf
  refine wpAnyH_take (i := 3) (oi := o) (v := .pointer (some ⟨b1, o1 + k, none⟩)) (by rw [e0]; kernel_rfl) (by kernel_rfl) (by kernel_rfl) (by kernel_rfl) (fun _ _ _ h => h) (Or.inl ⟨by rw [e]; rfl, ?_⟩) (by assumption) ?_
  · clear e0
    subst e
    intro w hSw
    have k0 : w.cell? ⟨b1, o1 + k, none⟩ = some (.int .i64 (x : Int)) := hSw
    go_simp
  clear e0
  subst e
  (try simp only [Act.put, List.setIfInBounds_toArray, List.set_cons_zero, List.set_cons_succ])
  obtain ⟨o, e0⟩ : ∃ o, o = opN ops49_7 4 := ⟨_, rfl⟩
  have e := e0
  conv at e => rhs; whnf
  refine wpAnyH_take (i := 4) (oi := o) (v := .int .i64 x) (by rw [e0]; kernel_rfl) (by kernel_rfl) (by kernel_rfl) (by kernel_rfl) (fun _ _ _ h => h) (Or.inl ⟨by rw [e]; rfl, ?_⟩) (by assumption) ?_
  · clear e0
    subst e
    intro w hSw
    have k0 : w.cell? ⟨b1, o1 + k, none⟩ = some (.int .i64 (x : Int)) := hSw
    go_simp
  clear e0
  subst e
  (try simp only [Act.put, List.setIfInBounds_toArray, List.set_cons_zero, List.set_cons_succ])
  obtain ⟨o, e0⟩ : ∃ o, o = opN ops49_7 5 := ⟨_, rfl⟩
  have e := e0
  conv at e => rhs; whnf
  refine wpAnyH_take (i := 5) (oi := o) (v := .slice (some ⟨g, 0, none⟩) m c9) (by rw [e0]; kernel_rfl) (by kernel_rfl) (by kernel_rfl) (by kernel_rfl) (fun _ _ _ h => h) (Or.inl ⟨by rw [e]; rfl, ?_⟩) (by assumption) ?_
  · clear e0
    subst e
    intro w hSw
    have k0 : w.cell? ⟨b1, o1 + k, none⟩ = some (.int .i64 (x : Int)) := hSw
    go_simp
  clear e0
  subst e
  (try simp only [Act.put, List.setIfInBounds_toArray, List.set_cons_zero, List.set_cons_succ])
  obtain ⟨o, e0⟩ : ∃ o, o = opN ops49_7 6 := ⟨_, rfl⟩
  have e := e0
  conv at e => rhs; whnf
  refine wpAnyH_take (i := 6) (oi := o) (v := .slice (some ⟨b1, o1, none⟩) n c2) (by rw [e0]; kernel_rfl) (by kernel_rfl) (by kernel_rfl) (by kernel_rfl) (fun _ _ _ h => h) (Or.inl ⟨by rw [e]; rfl, ?_⟩) (by assumption) ?_
  · clear e0
    subst e
    intro w hSw
    have k0 : w.cell? ⟨b1, o1 + k, none⟩ = some (.int .i64 (x : Int)) := hSw
    go_simp
  clear e0
  subst e
  (try simp only [Act.put, List.setIfInBounds_toArray, List.set_cons_zero, List.set_cons_succ])
  obtain ⟨o, e0⟩ : ∃ o, o = opN ops49_7 7 := ⟨_, rfl⟩
  have e := e0
  conv at e => rhs; whnf
  refine wpAnyH_take (i := 7) (oi := o) (v := .int .i64 k) (by rw [e0]; kernel_rfl) (by kernel_rfl) (by kernel_rfl) (by kernel_rfl) (fun _ _ _ h => h) (Or.inl ⟨by rw [e]; rfl, ?_⟩) (by assumption) ?_
  · clear e0
    subst e
    intro w hSw
    have k0 : w.cell? ⟨b1, o1 + k, none⟩ = some (.int .i64 (x : Int)) := hSw
    go_simp
  clear e0
  subst e
  (try simp only [Act.put, List.setIfInBounds_toArray, List.set_cons_zero, List.set_cons_succ])
  obtain ⟨o, e0⟩ : ∃ o, o = opN ops49_7 8 := ⟨_, rfl⟩
  have e := e0
  conv at e => rhs; whnf
  refine wpAnyH_take (i := 8) (oi := o) (v := .pointer (some ⟨b1, o1 + k, none⟩)) (by rw [e0]; kernel_rfl) (by kernel_rfl) (by kernel_rfl) (by kernel_rfl) (fun _ _ _ h => h) (Or.inl ⟨by rw [e]; rfl, ?_⟩) (by assumption) ?_
  · clear e0
    subst e
    intro w hSw
    have k0 : w.cell? ⟨b1, o1 + k, none⟩ = some (.int .i64 (x : Int)) := hSw
    go_simp
  clear e0
  subst e
  (try simp only [Act.put, List.setIfInBounds_toArray, List.set_cons_zero, List.set_cons_succ])
  obtain ⟨o, e0⟩ : ∃ o, o = opN ops49_7 9 := ⟨_, rfl⟩
  have e := e0
  conv at e => rhs; whnf
  refine wpAnyH_take (i := 9) (oi := o) (v := .int .i64 x) (by rw [e0]; kernel_rfl) (by kernel_rfl) (by kernel_rfl) (by kernel_rfl) (fun _ _ _ h => h) (Or.inl ⟨by rw [e]; rfl, ?_⟩) (by assumption) ?_
  · clear e0
    subst e
    intro w hSw
    have k0 : w.cell? ⟨b1, o1 + k, none⟩ = some (.int .i64 (x : Int)) := hSw
    go_simp
  clear e0
  subst e
  (try simp only [Act.put, List.setIfInBounds_toArray, List.set_cons_zero, List.set_cons_succ])
  obtain ⟨o, e0⟩ : ∃ o, o = opN ops49_7 10 := ⟨_, rfl⟩
  have e := e0
  conv at e => rhs; whnf
  refine wpAnyH_take (i := 10) (oi := o) (v := .pointer (some ⟨g, x, none⟩)) (by rw [e0]; kernel_rfl) (by kernel_rfl) (by kernel_rfl) (by kernel_rfl) (fun _ _ _ h => h) (Or.inl ⟨by rw [e]; rfl, ?_⟩) (by assumption) ?_
  · clear e0
    subst e
    intro w hSw
    have k0 : w.cell? ⟨b1, o1 + k, none⟩ = some (.int .i64 (x : Int)) := hSw
    go_simp
  clear e0
  subst e
  (try simp only [Act.put, List.setIfInBounds_toArray, List.set_cons_zero, List.set_cons_succ])
  obtain ⟨o, e0⟩ : ∃ o, o = opN ops49_7 12 := ⟨_, rfl⟩
  have e := e0
  conv at e => rhs; whnf
  refine wpAnyH_take (i := 12) (oi := o) (v := .int .i64 k) (by rw [e0]; kernel_rfl) (by kernel_rfl) (by kernel_rfl) (by kernel_rfl) (fun _ _ _ h => h) (Or.inl ⟨by rw [e]; rfl, ?_⟩) (by assumption) ?_
  · clear e0
    subst e
    intro w hSw
    have k0 : w.cell? ⟨b1, o1 + k, none⟩ = some (.int .i64 (x : Int)) := hSw
    go_simp
  clear e0
  subst e
  (try simp only [Act.put, List.setIfInBounds_toArray, List.set_cons_zero, List.set_cons_succ])
  refine wpAnyH_ready (rs := [11, 13]) (by kernel_rfl) (by simp) ?_
  refine AllReadyH.cons (o := opN ops49_7 11) (by kernel_rfl) (fun K' hK => ?_) (AllReadyH.cons (o := opN ops49_7 13) (by kernel_rfl) (fun K' hK => ?_) AllReadyH.nil)
  · skip
    obtain ⟨o, e⟩ : ∃ o, o = opN ops49_7 11 := ⟨_, rfl⟩
    rw [← e]
    conv at e => rhs; whnf
    subst e
    go_simp
    refine hK.out _ _ hHeld (fun hHeld => ?_)
    clear hK
    (try simp only [List.setIfInBounds_toArray, List.set_cons_zero, List.set_cons_succ])
    refine wpAnyH_ready (rs := [13]) (by kernel_rfl) (by simp) ?_
    refine AllReadyH.cons (o := opN ops49_7 13) (by kernel_rfl) (fun K' hK => ?_) AllReadyH.nil
    obtain ⟨o, e⟩ : ∃ o, o = opN ops49_7 13 := ⟨_, rfl⟩
    rw [← e]
    conv at e => rhs; whnf
    subst e
    go_simp
    refine ((bit_any k V.drew (by omega)).mono ?_)
    rw [hP]
    rintro e w' ⟨rfl, rfl⟩
    refine hK.out _ _ hHeld (fun hHeld => ?_)
    clear hK
    (try simp only [List.setIfInBounds_toArray, List.set_cons_zero, List.set_cons_succ])
    obtain ⟨o, e0⟩ : ∃ o, o = opN ops49_7 14 := ⟨_, rfl⟩
    have e := e0
    conv at e => rhs; whnf
    refine wpAnyH_take (i := 14) (oi := o) (v := .int .i64 ((y + P : Nat) : Int)) (by rw [e0]; kernel_rfl) (by kernel_rfl) (by kernel_rfl) (by kernel_rfl) (fun _ _ _ h => h) (Or.inl ⟨by rw [e]; rfl, ?_⟩) (by assumption) ?_
    · clear e0
      subst e
      intro w hSw
      have k0 : w.cell? ⟨b1, o1 + k, none⟩ = some (.int .i64 (x : Int)) := hSw
      go_simp
    clear e0
    subst e
    (try simp only [Act.put, List.setIfInBounds_toArray, List.set_cons_zero, List.set_cons_succ])
    obtain ⟨o, e0⟩ : ∃ o, o = opN ops49_7 15 := ⟨_, rfl⟩
    have e := e0
    conv at e => rhs; whnf
    refine wpAnyH_take (i := 15) (oi := o) (v := .pointer (some ⟨g, x, none⟩)) (by rw [e0]; kernel_rfl) (by kernel_rfl) (by kernel_rfl) (by kernel_rfl) (fun _ _ _ h => h) (Or.inl ⟨by rw [e]; rfl, ?_⟩) (by assumption) ?_
    · clear e0
      subst e
      intro w hSw
      have k0 : w.cell? ⟨b1, o1 + k, none⟩ = some (.int .i64 (x : Int)) := hSw
      go_simp
    clear e0
    subst e
    (try simp only [Act.put, List.setIfInBounds_toArray, List.set_cons_zero, List.set_cons_succ])
    refine wpAnyH_ready (rs := [16]) (by kernel_rfl) (by simp) ?_
    refine AllReadyH.cons (o := opN ops49_7 16) (by kernel_rfl) (fun K' hK => ?_) AllReadyH.nil
    obtain ⟨o, e⟩ : ∃ o, o = opN ops49_7 16 := ⟨_, rfl⟩
    rw [← e]
    conv at e => rhs; whnf
    subst e
    go_simp
    refine hK.out _ _ hc2 (fun hHeld => ?_)
    clear hK
    (try simp only [List.setIfInBounds_toArray, List.set_cons_zero, List.set_cons_succ])
    refine wpAnyH_done (by kernel_rfl) ?_ _
    exact NoPanic.normal (hQ _ _ _ _ _ _ _ _ _ _ _ _ _ _ _ _ _ rfl)
  · skip
    obtain ⟨o, e⟩ : ∃ o, o = opN ops49_7 13 := ⟨_, rfl⟩
    rw [← e]
    conv at e => rhs; whnf
    subst e
    go_simp
    refine ((bit_any k V.drew (by omega)).mono ?_)
    rw [hP]
    rintro e w' ⟨rfl, rfl⟩
    refine hK.out _ _ hHeld (fun hHeld => ?_)
    clear hK
    (try simp only [List.setIfInBounds_toArray, List.set_cons_zero, List.set_cons_succ])
    refine wpAnyH_ready (rs := [11]) (by kernel_rfl) (by simp) ?_
    refine AllReadyH.cons (o := opN ops49_7 11) (by kernel_rfl) (fun K' hK => ?_) AllReadyH.nil
    obtain ⟨o, e⟩ : ∃ o, o = opN ops49_7 11 := ⟨_, rfl⟩
    rw [← e]
    conv at e => rhs; whnf
    subst e
    go_simp
    refine hK.out _ _ hHeld (fun hHeld => ?_)
    clear hK
    (try simp only [List.setIfInBounds_toArray, List.set_cons_zero, List.set_cons_succ])
    obtain ⟨o, e0⟩ : ∃ o, o = opN ops49_7 14 := ⟨_, rfl⟩
    have e := e0
    conv at e => rhs; whnf
    refine wpAnyH_take (i := 14) (oi := o) (v := .int .i64 ((y + P : Nat) : Int)) (by rw [e0]; kernel_rfl) (by kernel_rfl) (by kernel_rfl) (by kernel_rfl) (fun _ _ _ h => h) (Or.inl ⟨by rw [e]; rfl, ?_⟩) (by assumption) ?_
    · clear e0
      subst e
      intro w hSw
      have k0 : w.cell? ⟨b1, o1 + k, none⟩ = some (.int .i64 (x : Int)) := hSw
      go_simp
    clear e0
    subst e
    (try simp only [Act.put, List.setIfInBounds_toArray, List.set_cons_zero, List.set_cons_succ])
    obtain ⟨o, e0⟩ : ∃ o, o = opN ops49_7 15 := ⟨_, rfl⟩
    have e := e0
    conv at e => rhs; whnf
    refine wpAnyH_take (i := 15) (oi := o) (v := .pointer (some ⟨g, x, none⟩)) (by rw [e0]; kernel_rfl) (by kernel_rfl) (by kernel_rfl) (by kernel_rfl) (fun _ _ _ h => h) (Or.inl ⟨by rw [e]; rfl, ?_⟩) (by assumption) ?_
    · clear e0
      subst e
      intro w hSw
      have k0 : w.cell? ⟨b1, o1 + k, none⟩ = some (.int .i64 (x : Int)) := hSw
      go_simp
    clear e0
    subst e
    (try simp only [Act.put, List.setIfInBounds_toArray, List.set_cons_zero, List.set_cons_succ])
    refine wpAnyH_ready (rs := [16]) (by kernel_rfl) (by simp) ?_
    refine AllReadyH.cons (o := opN ops49_7 16) (by kernel_rfl) (fun K' hK => ?_) AllReadyH.nil
    obtain ⟨o, e⟩ : ∃ o, o = opN ops49_7 16 := ⟨_, rfl⟩
    rw [← e]
    conv at e => rhs; whnf
    subst e
    go_simp
    refine hK.out _ _ hc2 (fun hHeld => ?_)
    clear hK
    (try simp only [List.setIfInBounds_toArray, List.set_cons_zero, List.set_cons_succ])
    refine wpAnyH_done (by kernel_rfl) ?_ _
    exact NoPanic.normal (hQ _ _ _ _ _ _ _ _ _ _ _ _ _ _ _ _ _ rfl)

end Go.Proofs.Ytojgdallodmanaa

namespace Go.Proofs.Ytojgdallodmanaa
open Go.RowKit

theorem pad_len {q : List Nat} (h : q.length ≤ 8) : (pad q).length = 8 := by unfold pad; simp; omega
theorem pad_at {q : List Nat} {k x : Nat} (h : q[k]? = some x) : (pad q)[k]? = some x := by
  unfold pad
  rw [List.getElem?_append_left (List.getElem?_eq_some_iff.1 h).1]
  exact h
theorem pad_take {q : List Nat} : (pad q).take q.length = q := by unfold pad; simp
theorem grow_drop : ∀ (q : List Nat) (m k : Nat) (x : Nat), grow m (q.drop k) = true → q[k]? = some x → x ≤ m ∧ grow (max m (x + 1)) (q.drop (k + 1)) = true := by
  intro q m k x hg hx
  obtain ⟨hk, hx⟩ := List.getElem?_eq_some_iff.1 hx
  rw [List.drop_eq_getElem_cons hk, hx] at hg
  simp only [grow, Bool.and_eq_true, decide_eq_true_eq] at hg
  exact hg
theorem grow_many {q : List Nat} (hg : grow 0 q = true) : ∀ k, k ≤ q.length → grow (manyTo (pad q) k) (q.drop k) = true := by
  intro k
  induction k with
  | zero => intro _; simpa [manyTo] using hg
  | succ k ih =>
    intro hk
    obtain ⟨x, hx⟩ : ∃ x, q[k]? = some x := ⟨_, List.getElem?_eq_getElem (by omega)⟩
    rw [manyTo, pad_at hx]
    exact (grow_drop q _ k x (ih (by omega)) hx).2
theorem grow_le_k {q : List Nat} (hg : grow 0 q = true) : ∀ k, k ≤ q.length → manyTo (pad q) k ≤ k := by
  intro k
  induction k with
  | zero => intro _; simp [manyTo]
  | succ k ih =>
    intro hk
    obtain ⟨x, hx⟩ : ∃ x, q[k]? = some x := ⟨_, List.getElem?_eq_getElem (by omega)⟩
    have h1 := ih (by omega)
    have h2 := (grow_drop q _ k x (grow_many hg k (by omega)) hx).1
    rw [manyTo, pad_at hx]
    simp only
    omega
theorem blk_zero {q : List Nat} : ∀ k j, manyTo (pad q) k ≤ j → (blkTo (pad q) k)[j]?.getD 0 = 0 := by
  intro k
  induction k with
  | zero => intro j _; rw [blkTo, List.getElem?_replicate]; split <;> rfl
  | succ k ih =>
    intro j hj
    rw [manyTo] at hj
    rw [blkTo]
    split
    · rename_i x hx
      rw [hx] at hj
      simp only at hj
      rw [List.getElem?_set_ne (by omega)]
      exact ih j (by omega)
    · rename_i hx
      rw [hx] at hj
      exact ih j hj
theorem blk_lt2 {q : List Nat} : ∀ k, ∀ x ∈ blkTo (pad q) k, x < 2 ^ k := by
  intro k
  induction k with
  | zero => intro x hx; rw [blkTo, List.mem_replicate] at hx; rw [hx.2]; decide
  | succ k ih =>
    intro x hx
    have hp : 2 ^ k < 2 ^ (k + 1) := Nat.pow_lt_pow_right (by decide) (by omega)
    have hy : ∀ y ∈ blkTo (pad q) k, y < 2 ^ (k + 1) := fun y hy => Nat.lt_trans (ih y hy) hp
    rw [blkTo] at hx
    split at hx
    · rename_i m _
      rcases List.mem_or_eq_of_mem_set hx with h1 | h1
      · exact hy x h1
      · rw [h1]
        refine Nat.or_lt_two_pow ?_ hp
        cases hg : (blkTo (pad q) k)[m]? with
        | none => simp; exact Nat.pow_pos (by decide)
        | some y => exact hy y (List.mem_of_getElem? hg)
    · exact hy x hx
/-- The blocks that are open behind k parts. -/
def rowB (q : List Nat) (k : Nat) : List Nat := (blkTo (pad q) k).take (manyTo (pad q) k)
theorem rowB_len {q : List Nat} (hq : q.length ≤ 8) (hg : grow 0 q = true) {k : Nat} (hk : k ≤ q.length) : (rowB q k).length = manyTo (pad q) k := by
  have := grow_le_k hg k hk
  unfold rowB
  rw [List.length_take, blkTo_len]
  omega
/-- One more part: where it opens a block, an empty one is laid; then it is put in. -/
theorem rowB_succ {q : List Nat} (hq : q.length ≤ 8) (hg : grow 0 q = true) {k x : Nat} (hx : q[k]? = some x) :
    (x < manyTo (pad q) k ∧ manyTo (pad q) (k + 1) = manyTo (pad q) k ∧ ∃ y, (rowB q k)[x]? = some y ∧ y < 2 ^ k ∧ rowB q (k + 1) = (rowB q k).set x (y + 2 ^ k)) ∨
    (x = manyTo (pad q) k ∧ manyTo (pad q) (k + 1) = manyTo (pad q) k + 1 ∧ rowB q (k + 1) = (rowB q k ++ [0]).set x (0 + 2 ^ k)) := by
  have hk : k < q.length := (List.getElem?_eq_some_iff.1 hx).1
  have hm := grow_le_k hg k (by omega)
  have hxm := (grow_drop q _ k x (grow_many hg k (by omega)) hx).1
  have hl := rowB_len hq hg (k := k) (by omega)
  have hbl := blkTo_len (pad q) k
  have e1 : blkTo (pad q) (k + 1) = (blkTo (pad q) k).set x ((blkTo (pad q) k)[x]?.getD 0 ||| 2 ^ k) := by rw [blkTo, pad_at hx]
  have e2 : manyTo (pad q) (k + 1) = max (manyTo (pad q) k) (x + 1) := by rw [manyTo, pad_at hx]
  have hor : ∀ y, y < 2 ^ k → y ||| 2 ^ k = y + 2 ^ k := fun y hy => by
    have := Nat.two_pow_add_eq_or_of_lt hy 1
    rw [Nat.mul_one] at this
    rw [Nat.or_comm, ← this, Nat.add_comm]
  rcases Nat.lt_or_ge x (manyTo (pad q) k) with h1 | h1
  · refine .inl ⟨h1, by omega, ?_⟩
    obtain ⟨y, hy⟩ : ∃ y, (blkTo (pad q) k)[x]? = some y := ⟨_, List.getElem?_eq_getElem (by omega)⟩
    have hyl := blk_lt2 k y (List.mem_of_getElem? hy)
    refine ⟨y, by unfold rowB; rw [List.getElem?_take_of_lt h1]; exact hy, hyl, ?_⟩
    unfold rowB
    rw [e1, e2, hy, Option.getD_some, hor y hyl, Nat.max_eq_left (by omega), List.take_set]
  · obtain rfl : x = manyTo (pad q) k := by omega
    refine .inr ⟨rfl, by omega, ?_⟩
    have h0 := blk_zero (q := q) k _ (Nat.le_refl _)
    have h0' : (blkTo (pad q) k)[manyTo (pad q) k]? = some 0 := by
      obtain ⟨y, hy⟩ : ∃ y, (blkTo (pad q) k)[manyTo (pad q) k]? = some y := ⟨_, List.getElem?_eq_getElem (by omega)⟩
      rw [hy] at h0 ⊢
      simpa using h0
    unfold rowB
    rw [e1, e2, h0, Nat.max_eq_right (by omega), List.take_set, hor 0 (Nat.pow_pos (by decide))]
    congr 1
    obtain ⟨a, b⟩ := List.getElem?_eq_some_iff.1 h0'
    rw [List.take_succ_eq_append_getElem a, b]

set_option maxRecDepth 100000 in
set_option maxHeartbeats 1000000 in
theorem cut48_any (h : Hul) (A J : Option Addr) (B cap capJ : Nat) (Q : Option Addr) (q : List Nat) (c2 : Nat) (w : World) (hq : q.length = h.ps.length) (hn8 : h.ps.length ≤ 8) (hg : grow 0 q = true) (hR : Rd1 nv w B Q q) (hB : B ≤ w.heap.size) :
    Calls Try.prog 48 #[hv h A cap J capJ, .slice Q q.length c2] w fun e w' => e = .returned (iv 0) ∧ Below w.heap.size w w' := by
  obtain ⟨W1, hW1, hb0, hzz, p0, p1, p2, p3, p4⟩ := hulBox w h A cap J capJ
  have HB0 := Lib.hid hb0
  have HR := Lib.hid (hR.below hb0 hB)
  have hBz := Nat.le_trans hB hb0.size
  have hne : ((q.length : Int) != (h.ps.length : Int)) = false := by rw [hq]; simp
  have HG := Lib.hid hg
  have HQ := Lib.hid hq
  have hq8 : q.length ≤ 8 := by omega
  clear hb0 hR hg hzz hq
  go_enter Try.func48, Try.ntmps48
  go_wp2_with fail
  clear hne hW1 p0 p1 p2 p3 p4
  go_loopw [5, 6] (fun vn vi wr => ∃ k : Nat, k ≤ q.length ∧ vi = .int .i64 k ∧ vn = .int .i64 (manyTo (pad q) k) ∧ Hid (Below W1.heap.size W1 wr)) (fun _ vi _ => q.length - (intOf vi).toNat)
  case atStart => exact ⟨0, Nat.zero_le _, rfl, rfl, Lib.hid (belowR _)⟩
  case round =>
    obtain ⟨k, hk, rfl, rfl, HBR⟩ := hrel
    by_cases hlt : k < q.length
    · obtain ⟨x, hx⟩ : ∃ x, q[k]? = some x := ⟨_, List.getElem?_eq_getElem hlt⟩
      obtain ⟨b1, o1, rfl, hb1, c1⟩ := HR.out k x hx
      have c1 := (HBR.out.cell (p := ⟨b1, o1 + k, none⟩) (by simp only; omega)).trans c1
      have hxm := (grow_drop q _ k x (grow_many HG.out k (by omega)) hx).1
      have hmk := grow_le_k HG.out k (by omega)
      have e2 : manyTo (pad q) (k + 1) = max (manyTo (pad q) k) (x + 1) := by rw [manyTo, pad_at hx]
      obtain ⟨m, hm⟩ : ∃ m, manyTo (pad q) k = m := ⟨_, rfl⟩
      rw [hm] at hxm hmk e2 ⊢
      have E2 := Lib.hid e2
      have hin : inB 0 (m : Int) (x : Int) = true := by unfold inB; simp; omega
      have HIN := Lib.hid hin
      clear hx hm e2 hin
      rcases Nat.lt_or_ge x m with hxe | hxe
      case inr =>
        obtain rfl : x = m := by omega
        have hce : ((x : Int) == (x : Int)) = true := by simp
        have E3 : Hid (manyTo (pad q) (k + 1) = x + 1) := Lib.hid (by rw [E2.out]; omega)
        clear hxm hxe
        go_wp2_with (go_at_call 59; refine (in_b HIN.out _).mono ?_; rintro e w' ⟨rfl, rfl⟩)
        go_roundw
        case rel => exact ⟨k + 1, by omega, by go_num, by rw [E3.out]; go_num, HBR⟩
        case measure => simp [intOf]; omega
      case inl =>
        have E3 : Hid (manyTo (pad q) (k + 1) = m) := Lib.hid (by rw [E2.out]; omega)
        have hce : ((x : Int) == (m : Int)) = false := by simp; omega
        go_wp2_with (go_at_call 59; refine (in_b HIN.out _).mono ?_; rintro e w' ⟨rfl, rfl⟩)
        go_roundw
        case rel => exact ⟨k + 1, by omega, by go_num, by rw [E3.out], HBR⟩
        case measure => simp [intOf]; omega
    · go_wp2_with fail
      go_ret
      exact ⟨rfl, belowT HB0.out HBR.out⟩

set_option maxRecDepth 100000 in
set_option maxHeartbeats 1000000 in
theorem blocks49_any (B : Nat) (Q : Option Addr) (q : List Nat) (c2 : Nat) (w : World) (hq8 : q.length ≤ 8) (hg : grow 0 q = true) (hR : Rd1 nv w B Q q) (hB : B ≤ w.heap.size) :
    Calls Try.prog 49 #[.slice Q q.length c2] w fun e w' => Below w.heap.size w w' ∧ ∃ A cap, e = .returned (.slice A (manyTo (pad q) q.length) cap) ∧ w'.ownsRow w.heap.size 3 1 (.slice A (manyTo (pad q) q.length) cap) (manyTo (pad q) q.length) ((rowB q q.length).map nv) := by
  obtain ⟨i3, hi3, hz30, hz31, hz32⟩ := info_parts Try.info3
  have HR := Lib.hid hR
  have HG := Lib.hid hg
  clear hR hg
  go_enter Try.func49, Try.ntmps49
  go_wp2_with fail
  go_loopw [3, 4] (fun vo vi wr => ∃ (k : Nat) (va : Value), k ≤ q.length ∧ vi = .int .i64 k ∧ va = vo ∧ Hid (wr.ownsRow w.heap.size 3 1 va (manyTo (pad q) k) ((rowB q k).map nv)) ∧ Hid (Below w.heap.size w wr)) (fun _ vi _ => q.length - (intOf vi).toNat)
  case atStart => exact ⟨0, _, Nat.zero_le _, rfl, rfl, Lib.hid (World.ownsRow_nil _ _ _ _), Lib.hid (belowR _)⟩
  case round =>
    obtain ⟨k, va, hk, rfl, rfl, HO, HBR⟩ := hrel
    obtain ⟨Av, cv, hv, _⟩ : ∃ Av cv, va = .slice Av (manyTo (pad q) k) cv ∧ True := by
      have hl := rowB_len hq8 HG.out hk
      have h := HO.out
      rw [← hl] at h
      obtain ⟨A9, c9, hv9, _⟩ := own_rd1 h
      exact ⟨A9, c9, by rw [hv9, hl], trivial⟩
    subst hv
    by_cases hlt : k < q.length
    · obtain ⟨x, hx⟩ : ∃ x, q[k]? = some x := ⟨_, List.getElem?_eq_getElem hlt⟩
      obtain ⟨b1, o1, rfl, hb1, c1w⟩ := HR.out k x hx
      have c1 := (HBR.out.cell (p := ⟨b1, o1 + k, none⟩) (by simp only; omega)).trans c1w
      have hs := rowB_succ hq8 HG.out hx
      have hmk := grow_le_k HG.out k (by omega)
      have hbt : ∀ W, Calls Try.prog 47 #[.int .i64 k] W fun e w' => e = .returned (iv (2 ^ k : Nat)) ∧ W = w' := fun W => bit_any k W (by omega)
      have hpl : 2 ^ k < 256 := pow_lt (a := k) (by omega)
      obtain ⟨P, hP⟩ : ∃ P, (2 ^ k : Nat) = P := ⟨_, rfl⟩
      have HP := Lib.hid hP
      rw [hP] at hbt hpl hs
      have HBT := Lib.hid hbt
      have hl := rowB_len hq8 HG.out hk
      obtain ⟨m1, hm1⟩ : ∃ m1, manyTo (pad q) (k + 1) = m1 := ⟨_, rfl⟩
      have HM1 := Lib.hid hm1
      obtain ⟨R1, hR1⟩ : ∃ R, rowB q (k + 1) = R := ⟨_, rfl⟩
      have HR1 := Lib.hid hR1
      rw [hm1, hR1] at hs
      obtain ⟨R, hR⟩ : ∃ R, rowB q k = R := ⟨_, rfl⟩
      rw [hR] at hs HO hl
      obtain ⟨m, hm⟩ : ∃ m, manyTo (pad q) k = m := ⟨_, rfl⟩
      rw [hm] at hs HO hl hmk ⊢
      have hk0 : (0 : Int) ≤ (k : Int) := by omega
      have hkz : (k : Int) < (q.length : Int) := by omega
      clear hbt hP hx hm1 hR1 hR hm
      rcases hs with ⟨hxm, hmm, y, hy, hyl, hr1⟩ | ⟨hxm, hmm, hr1⟩
      · obtain ⟨g, c9, hv9, hgb, hgl, _⟩ := own_form HO.out (by omega)
        injection hv9 with hv91 hv92 hv93
        subst hv91 hv93
        subst hmm
        have hown := HO.out
        rw [← hl] at hown
        obtain ⟨A9, _, hv9, hrd, _⟩ := own_rd1 hown
        injection hv9 with hv91
        subst hv91
        obtain ⟨b9, o9, he9, _, d2⟩ := hrd x y hy
        injection he9 with he9
        injection he9 with he91 he92
        subst he91 he92
        rw [Nat.zero_add] at d2
        have d3 := HO.out.frozenAt x
        have HST : Hid (∀ W : World, W.ownsRow w.heap.size 3 1 (.slice (some ⟨g, 0, none⟩) m1 cv) m1 (R.map nv) → (W.setCell ⟨g, x, none⟩ (.int .i64 ((y + P : Nat) : Int))).ownsRow w.heap.size 3 1 (.slice (some ⟨g, 0, none⟩) m1 cv) m1 (R1.map nv)) := Lib.hid fun W hW => by rw [hr1, List.map_set]; exact (hW.stored x (nv (y + P))).1
        have hce : ((x : Int) == (m1 : Int)) = false := by simp; omega
        have hw1 : IntKind.i64.wrap ((y : Int) + (P : Int)) = ((y + P : Nat) : Int) := by rw [IntKind.wrap_i64]; omega
        have hx0 : (0 : Int) ≤ (x : Int) := by omega
        have hxz : (x : Int) < (m1 : Int) := by omega
        clear hown hrd hr1 hy hl
        have hne : b1 ≠ g := by omega
        have hk8 : k ≤ 8 := by omega
        have hy256 : y < 256 := by omega
        go_upto_region 7 with fail
        refine reg49_7 hlt hxm hk8 HP.out hy256 hpl hne c1 d2 d3 ?_
        intro u100 u101 u102 u103 u104 u105 u106 u107 u108 u109 u110 u111 u112 u113 u114 u115 wx hwx
        subst hwx
        go_wp2_with fail
        have hgw : w.heap.size ≤ g := hgb
        go_roundw
        case rel => exact ⟨k + 1, _, by omega, by go_num, rfl, Lib.hid (by rw [HM1.out, HR1.out]; exact HST.out _ HO.out.drew), Lib.hid (belowS (belowDq HBR.out) hgw _)⟩
        case measure => simp [intOf]; omega
      · subst hxm
        have hce : ((x : Int) == (x : Int)) = true := by simp
        have HAL := Lib.hid (HO.out.alloc (.cells #[.int .i64 0] 3))
        have HL := Lib.hid hl
        have HR1B := Lib.hid hr1
        have HMM := Lib.hid hmm
        clear hl hr1 hmm
        go_wp2_with (at_builtin; refine wpList_append_own _ rfl _ _ 40 rfl w.heap.size 3 i3 (.int .i64 0) 1 8 Try.underlying40 hi3 hz30 hz31 hz32 rfl (by decide) _ _ _ rfl HAL.out ⟨wr.heap.size, 0, none⟩ 1 1 [.int .i64 0] rfl rfl ?d1 ?d2 ?d3 ?d4 ?d5 ?_)
        case d1 => exact one_new _ _ _
        case d2 => simp [Value.oneCell']
        case d3 => unfold maxLen; omega
        case d4 => omega
        case d5 => have := HBR.out.size; simp only [World.size_alloc]; omega
        intro v6 w6 hown6 hg6 _
        have hb6 : Below w.heap.size w w6 := grownB HAL.out hg6 (Nat.le_refl _) (belowA HBR.out _)
        have c6 := (hb6.cell (p := ⟨b1, o1 + k, none⟩) (by simp only; omega)).trans c1w
        have hown6 : w6.ownsRow w.heap.size 3 1 v6 (x + 1) ((R ++ [0]).map nv) := by rw [List.map_append]; exact hown6
        obtain ⟨g, c9, hv9, hgb, hgl, _⟩ := own_form hown6 (by omega)
        subst hv9
        have hll : (R ++ [0]).length = x + 1 := by rw [List.length_append, HL.out]; rfl
        have hown := hown6
        rw [← hll] at hown
        obtain ⟨A9, _, hv9, hrd, _⟩ := own_rd1 hown
        injection hv9 with hv91
        subst hv91
        have hy : (R ++ [0])[x]? = some 0 := by rw [← HL.out]; simp
        obtain ⟨b9, o9, he9, _, d2⟩ := hrd x 0 hy
        injection he9 with he9
        injection he9 with he91 he92
        subst he91 he92
        rw [Nat.zero_add] at d2
        have d3 := hown6.frozenAt x
        have HST : Hid (∀ W : World, W.ownsRow w.heap.size 3 1 (.slice (some ⟨g, 0, none⟩) (x + 1) c9) (x + 1) ((R ++ [0]).map nv) → (W.setCell ⟨g, x, none⟩ (.int .i64 (P : Int))).ownsRow w.heap.size 3 1 (.slice (some ⟨g, 0, none⟩) (x + 1) c9) (x + 1) (R1.map nv)) := Lib.hid fun W hW => by rw [HR1B.out, List.map_set, Nat.zero_add]; exact (hW.stored x (nv P)).1
        have hw1 : IntKind.i64.wrap (0 + (P : Int)) = (P : Int) := by rw [IntKind.wrap_i64]; omega
        have hx0 : (0 : Int) ≤ (x : Int) := by omega
        have hxz : (x : Int) < (x : Int) + 1 := by omega
        have HO6 := Lib.hid hown6
        have HB6 := Lib.hid hb6
        clear hown hrd hy hown6 hg6 hb6 c1 HO HAL
        have hne : b1 ≠ g := by omega
        have hk8 : k ≤ 8 := by omega
        go_upto_region 7 with fail
        refine reg49_7 hlt (Nat.lt_succ_self x) hk8 HP.out (show 0 < 256 by decide) hpl hne c6 d2 d3 ?_
        intro u100 u101 u102 u103 u104 u105 u106 u107 u108 u109 u110 u111 u112 u113 u114 u115 wx hwx
        subst hwx
        go_wp2_with fail
        have hgw : w.heap.size ≤ g := hgb
        go_roundw
        case rel => exact ⟨k + 1, _, by omega, by go_num, rfl, Lib.hid (by rw [HM1.out, HMM.out, HR1.out]; exact HST.out _ HO6.out.drew), Lib.hid (belowS (belowDq HB6.out) hgw _)⟩
        case measure => simp [intOf]; omega
    · obtain rfl : k = q.length := by omega
      go_wp2_with fail
      go_ret
      exact ⟨HBR.out, _, _, rfl, HO.out⟩
end Go.Proofs.Ytojgdallodmanaa

namespace Go.Proofs.Ytojgdallodmanaa
open Go.RowKit

theorem many_pad {q : List Nat} : ∀ k, k ≤ q.length → manyTo (pad q) k = manyTo q k := by
  intro k
  induction k with
  | zero => intro _; rfl
  | succ k ih =>
    intro hk
    have hx : q[k]? = some q[k] := List.getElem?_eq_getElem (by omega)
    rw [manyTo, manyTo, pad_at hx, hx, ih (by omega)]

set_option maxRecDepth 100000 in
set_option maxHeartbeats 1000000 in
theorem blocks52_any (B : Nat) (Q : Option Addr) (q : List Nat) (c2 : Nat) (w : World) (hq : q.length ≤ 1000) (hx : ∀ x ∈ q, x < 1000) (hR : Rd1 nv w B Q q) (hB : B ≤ w.heap.size) :
    Calls Try.prog 52 #[.slice Q q.length c2] w fun e w' => e = .returned (iv (manyTo q q.length : Nat)) ∧ Below w.heap.size w w' := by
  have HR := Lib.hid hR
  have HX := Lib.hid hx
  clear hR hx
  go_enter Try.func52, Try.ntmps52
  go_wp2_with fail
  go_loopw [3, 4] (fun vn vi wr => ∃ k : Nat, k ≤ q.length ∧ vi = .int .i64 k ∧ vn = .int .i64 (manyTo q k : Nat) ∧ Hid (Below w.heap.size w wr)) (fun _ vi _ => q.length - (intOf vi).toNat)
  case atStart => exact ⟨0, Nat.zero_le _, rfl, rfl, Lib.hid (belowR _)⟩
  case round =>
    obtain ⟨k, hk, rfl, rfl, HBR⟩ := hrel
    by_cases hlt : k < q.length
    · obtain ⟨x, hx⟩ : ∃ x, q[k]? = some x := ⟨_, List.getElem?_eq_getElem hlt⟩
      have hxl := HX.out x (List.mem_of_getElem? hx)
      obtain ⟨b1, o1, rfl, hb1, c1⟩ := HR.out k x hx
      have c1 := (HBR.out.cell (p := ⟨b1, o1 + k, none⟩) (by simp only; omega)).trans c1
      have e2 : manyTo q (k + 1) = max (manyTo q k) (x + 1) := by rw [manyTo, hx]
      obtain ⟨m, hm⟩ : ∃ m, manyTo q k = m := ⟨_, rfl⟩
      rw [hm] at e2 ⊢
      have hmk : ((max m (x + 1) : Nat) : Int) = max (m : Int) ((x : Int) + 1) := by omega
      have E2 := Lib.hid (show ((manyTo q (k + 1) : Nat) : Int) = max (m : Int) ((x : Int) + 1) by rw [e2, hmk])
      clear hx hm e2 hmk
      go_wp2_with fail
      go_roundw
      case rel => exact ⟨k + 1, by omega, by go_num, by rw [E2.out], HBR⟩
      case measure => simp [intOf]; omega
    · obtain rfl : k = q.length := by omega
      go_wp2_with fail
      go_ret
      exact ⟨rfl, HBR.out⟩
end Go.Proofs.Ytojgdallodmanaa

namespace Go.Proofs.Ytojgdallodmanaa
open Go.RowKit

section
variable {h h' : Hul} {l l' : List Wgh} {N N' : List Nd} {s : Nat} {M M' : Int}
/-- Weighings that are right stay right with a hull that is right and has as many parts, and the same joints. -/
theorem pre_with (hp : openPre h l = 0) (hr : HulRight h') (hl : h'.ps.length = h.ps.length) (hj : h'.js = h.js) : openPre h' l = 0 := by
  obtain ⟨h1, h2, h3, h4⟩ := openPre_iff.1 hp
  refine openPre_iff.2 ⟨check_iff.2 hr, h2, fun x hx => ?_, h4⟩
  have := h3 x hx
  unfold OneOk at this ⊢
  rw [hl, hj]
  exact this
theorem pre_right (hp : openPre h l = 0) : HulRight h := check_iff.1 (openPre_iff.1 hp).1
theorem pre_nil (hp : openPre h l = 0) : openPre h [] = 0 := openPre_iff.2 ⟨(openPre_iff.1 hp).1, by simp, fun x hx => by simp at hx, List.Pairwise.nil⟩
theorem feas_nil (hp : openPre h l = 0) : Feas h [] := by
  have hps := (pre_right hp).ps
  refine ⟨fun i => (h.ps[i]?.map Prt.lo).getD 0, fun i p hi => ?_, fun x hx => by simp at hx⟩
  have := hps p (List.mem_of_getElem? hi)
  simp only [hi, Option.map_some, Option.getD_some]
  omega
theorem truth_ps (e : h'.ps = h.ps) : TruthP h' l = TruthP h l := by unfold TruthP; rw [e]
/-- Each truth of one is no heavier than some truth of the other one. -/
def NoHeavier (h : Hul) (l : List Wgh) (h' : Hul) (l' : List Wgh) : Prop := ∀ w, TruthP h' l' w → ∃ v, TruthP h l v ∧ ∀ s, s < 2 ^ h.ps.length → sumS w s ≤ sumS v s
theorem NoHeavier.same (e : h'.ps = h.ps) : NoHeavier h l h' l := fun w hw => ⟨w, by rw [← truth_ps e]; exact hw, fun _ _ => Int.le_refl _⟩
theorem most_le (a : IsMost h l s M) (b : IsMost h' l' s M') (hs : s < 2 ^ h.ps.length) (hh : NoHeavier h l h' l') : M' ≤ M := by
  obtain ⟨w, hw, rfl⟩ := b.2
  obtain ⟨v, hv, hle⟩ := hh w hw
  have := a.1 v hv
  have := hle s hs
  omega
theorem sumTo_mono {w v : Nat → Int} {P : Nat → Bool} : ∀ k, (∀ i, i < k → P i = true → w i ≤ v i) → sumTo w P k ≤ sumTo v P k := by
  intro k
  induction k with
  | zero => intro _; exact Int.le_refl _
  | succ k ih =>
    intro h
    have := ih fun i hi => h i (by omega)
    rw [sumTo, sumTo]
    cases e : P k with
    | false => simpa using this
    | true =>
      have := h k (by omega) e
      simp only [if_true]
      omega
theorem most_nonneg (hp : openPre h l = 0) (a : IsMost h l s M) (hs : s < 2 ^ h.ps.length) : 0 ≤ M := by
  obtain ⟨w, hw, rfl⟩ := a.2
  have e : sumTo (fun _ => (0 : Int)) (fun i => s.testBit i) 8 ≤ sumTo w (fun i => s.testBit i) 8 := sumTo_mono 8 fun i _ hb => by
    have hi : i < h.ps.length := by
      rcases Nat.lt_or_ge i h.ps.length with h1 | h1
      · exact h1
      · exfalso
        rw [Nat.testBit_lt_two_pow (Nat.lt_of_lt_of_le hs (Nat.pow_le_pow_right (by decide) h1))] at hb
        cases hb
    have h1 := hw.1 i h.ps[i] (List.getElem?_eq_getElem hi)
    have h2 := (pre_right hp).ps h.ps[i] (List.getElem_mem hi)
    omega
  have z : ∀ k, sumTo (fun _ => (0 : Int)) (fun i => s.testBit i) k = 0 := fun k => by
    induction k with
    | zero => rfl
    | succ k ih => rw [sumTo, ih]; split <;> rfl
  rw [z] at e
  exact e
/-- What is no heavier, on no wetter sand, with no weaker winch needs no more blocks. -/
theorem few_easier (hp : openPre h l = 0) (hq : openPre h' l' = 0) (hf : Feas h l) (hf' : Feas h' l') (hN : IsTree h l N) (hN' : IsTree h' l' N') (hl : h'.ps.length = h.ps.length) (hj : h'.js = h.js) (hh : NoHeavier h l h' l') (hs : h'.shi ≤ h.shi) (hw : h.winch ≤ h'.winch) (hfew : (fewOf h N).1 ≤ h.ps.length) : (fewOf h' N').1 ≤ (fewOf h N).1 := by
  have hk := pre_right hp
  have hk' := pre_right hq
  refine few_mono hk.n8 hj hl (fun s hs2 hL => ?_) hfew
  unfold lightS at hL ⊢
  rw [decide_eq_true_eq] at hL ⊢
  have a := mostV_is hp hN hf hs2
  have b := mostV_is hq hN' hf' (s := s) (by rw [hl]; exact hs2)
  have hle := most_le a b hs2 hh
  have h0 := most_nonneg hp a hs2
  have h0' := most_nonneg hq b (by rw [hl]; exact hs2)
  have s1' := hk'.s1
  have s2' := hk'.s2
  have e1 : mostV h' N' s * h'.shi ≤ mostV h N s * h.shi := Int.le_trans (Int.mul_le_mul_of_nonneg_right hle (by omega)) (Int.mul_le_mul_of_nonneg_left hs h0)
  omega
end
/-! As many blocks. -/
theorem many_take {C : List Nat} {n : Nat} : ∀ k, k ≤ n → manyTo (C.take n) k = manyTo C k := by
  intro k
  induction k with
  | zero => intro _; rfl
  | succ k ih =>
    intro hk
    rw [manyTo, manyTo, List.getElem?_take_of_lt (by omega), ih (by omega)]
theorem few_blocks {h : Hul} {N : List Nd} (hf : (fewOf h N).1 ≤ h.ps.length) : manyTo ((fewOf h N).2.take h.ps.length) h.ps.length = (fewOf h N).1 := by
  rw [many_take _ (Nat.le_refl _), (few_some hf).2.1]
/-- What Fewest answers of what is right: a cut and its error. -/
theorem fewCase {h : Hul} {l : List Wgh} (ho : openE h l = 0) {V : World} {e : Ending} {w' : World} (hpost : FewestPost h l V e w') : Below V.heap.size V w' ∧ ∃ (N : List Nd) (q : List Nat) (E : Int) (A : Option Addr) (c : Nat), IsTree h l N ∧ e = .returned (.tuple #[.slice A q.length c, iv E]) ∧ Rd1 nv w' w'.heap.size A q ∧ q.length ≤ 8 ∧ (∀ x ∈ q, x < 8) ∧
    ((E = 9 ∧ h.ps.length < (fewOf h N).1 ∧ q = []) ∨ (E = 0 ∧ (fewOf h N).1 ≤ h.ps.length ∧ manyTo q q.length = (fewOf h N).1 ∧ q = (fewOf h N).2.take h.ps.length ∧ q.length = h.ps.length)) := by
  obtain ⟨hb, hc⟩ := hpost
  refine ⟨hb, ?_⟩
  rcases hc with ⟨hne, _⟩ | ⟨_, hp, hf, N, hN, hc⟩
  · exact absurd ho hne
  · have hk := hulOk (openPre_zero hp).1
    have hn8 := hk.n8
    rcases hc with ⟨h2, rfl⟩ | ⟨h2, A, c, rfl, hown⟩
    · exact ⟨N, [], 9, none, 0, hN, rfl, Rd1.nil, by simp, by simp, .inl ⟨rfl, h2, rfl⟩⟩
    · have hm := cutsL_mem hn8 hn8 _ (few_some h2).1
      have hfl : ((fewOf h N).2.take h.ps.length).length = h.ps.length := by rw [List.length_take, hm.1]; omega
      refine ⟨N, (fewOf h N).2.take h.ps.length, 0, A, c, hN, by rw [hfl], ?_, by rw [hfl]; exact hn8, fun x hx => hm.2 x (List.mem_of_mem_take hx), .inr ⟨rfl, h2, by rw [hfl]; exact few_blocks h2, rfl, hfl⟩⟩
      obtain ⟨A9, c9, hv9, hR9, _⟩ := own_rd1 (show w'.ownsRow V.heap.size 3 1 (.slice A ((fewOf h N).2.take h.ps.length).length c) ((fewOf h N).2.take h.ps.length).length (((fewOf h N).2.take h.ps.length).map nv) by rw [hfl]; exact hown)
      injection hv9 with e2
      rw [e2]
      exact hR9
end Go.Proofs.Ytojgdallodmanaa

namespace Go.Proofs.Ytojgdallodmanaa
open Go.RowKit

section
variable {h h' : Hul} {l : List Wgh} {N N' : List Nd} {b : Nat}
def blkAt (C : List Nat) (n j : Nat) : Nat := (blkTo C n)[j]?.getD 0
theorem canF_iff {wt : Int} : canF h N b wt = true ↔ ∃ C ∈ cutsL h.js h.ps.length b, ∀ j, j < manyTo C h.ps.length → mostV h N (blkAt C h.ps.length j) ≤ wt := by
  unfold canF
  rw [List.any_eq_true]
  have key : ∀ C, fitsCut h N wt C = true ↔ ∀ j, j < manyTo C h.ps.length → mostV h N (blkAt C h.ps.length j) ≤ wt := fun C => by
    unfold fitsCut anyTo blkAt
    simp only [Bool.not_eq_true', List.any_eq_false, List.mem_range, decide_eq_true_eq]
    exact ⟨fun H j hj => by have := H j hj; omega, fun H j hj => by have := H j hj; omega⟩
  exact ⟨fun ⟨C, a, b⟩ => ⟨C, a, (key C).1 b⟩, fun ⟨C, a, b⟩ => ⟨C, a, (key C).2 b⟩⟩
theorem lightW_min : (∀ k : Nat, k < lightW h N b → canF h N b (k : Int) = false) ∧ (lightW h N b ≤ h.ps.length * 100000 → canF h N b (lightW h N b : Int) = true) := by
  have hs := searchF_least (pred := fun k : Nat => canF h N b (k : Int)) (fun a c hac ha => canF_mono h N b hac ha) (h.ps.length * 100000 + 2) 0 (h.ps.length * 100000 + 1) (by omega) (by omega) (fun k hk => by omega)
  exact ⟨hs.2.2.1, fun hl => hs.2.2.2 (show searchF (fun k : Nat => canF h N b (k : Int)) (h.ps.length * 100000 + 2) 0 (h.ps.length * 100000 + 1) < _ by unfold lightW at hl; omega)⟩
theorem lightW_of {k : Nat} (hc : canF h N b (k : Int) = true) : lightW h N b ≤ k := by
  rcases Nat.lt_or_ge k (lightW h N b) with h1 | h1
  · rw [lightW_min.1 k h1] at hc
    cases hc
  · exact h1
theorem blkAt_lt {C : List Nat} {n : Nat} (j : Nat) : blkAt C n j < 2 ^ n := by
  unfold blkAt
  cases e : (blkTo C n)[j]? with
  | none => simp only [Option.getD_none]; exact Nat.pow_pos (by decide)
  | some x => exact blkTo_lt2 C n x (List.mem_of_getElem? e)
theorem most_bd (hp : openPre h l = 0) (hN : IsTree h l N) (hf : Feas h l) {s : Nat} (hs : s < 2 ^ h.ps.length) : 0 ≤ mostV h N s ∧ mostV h N s ≤ (h.ps.length * 100000 : Nat) := by
  obtain ⟨_, w, hw, e⟩ := mostV_is hp hN hf hs
  have := truth_bd (hulOk (openPre_zero hp).1) hw hs
  omega
/-- Any cut at all: the number is found. -/
theorem lightW_cut (hp : openPre h l = 0) (hN : IsTree h l N) (hf : Feas h l) {C : List Nat} (hC : C ∈ cutsL h.js h.ps.length b) : lightW h N b ≤ h.ps.length * 100000 :=
  lightW_of (canF_iff.2 ⟨C, hC, fun j _ => (most_bd hp hN hf (blkAt_lt j)).2⟩)
theorem lightCut_all {C : List Nat} : lightCut h N C = true ↔ ∀ j, j < manyTo C h.ps.length → mostV h N (blkAt C h.ps.length j) * h.shi ≤ 1000 * h.winch := by
  rw [lightCut_iff]
  unfold lightS blkAt
  simp only [decide_eq_true_eq]
/-- Which cuts have at most b blocks. -/
theorem cuts_b {n : Nat} {js : List (Int × Int)} {C : List Nat} (hb : 1 ≤ b) : C ∈ cutsL js n b ↔ C ∈ cutsL js n n ∧ manyTo C n ≤ b := by
  constructor
  · intro hC
    refine ⟨?_, cutsL_many hb hC⟩
    obtain ⟨q, h1, h2, h3, h4, rfl⟩ := cutsL_iff.1 hC
    refine cutsL_iff.2 ⟨q, h1, h2, fun x hx => ?_, h4, rfl⟩
    obtain ⟨k, hk⟩ := List.getElem?_of_mem hx
    have hkl := (List.getElem?_eq_some_iff.1 hk).1
    have := (grow_drop q _ k x (grow_many h2 k (by omega)) hk).1
    have := grow_le_k h2 k (by omega)
    omega
  · rintro ⟨hC, hm⟩
    obtain ⟨q, h1, h2, h3, h4, rfl⟩ := cutsL_iff.1 hC
    refine cutsL_iff.2 ⟨q, h1, h2, fun x hx => ?_, h4, rfl⟩
    obtain ⟨k, hk⟩ := List.getElem?_of_mem hx
    have hkl := (List.getElem?_eq_some_iff.1 hk).1
    have key : ∀ m, k < m → x + 1 ≤ manyTo (pad q) m := by
      intro m
      induction m with
      | zero => intro h; omega
      | succ m ih =>
        intro hm2
        rw [manyTo]
        rcases Nat.lt_or_ge k m with h5 | h5
        · have := ih h5
          split <;> omega
        · obtain rfl : k = m := by omega
          rw [pad_at hk]
          simp only
          omega
    have := key n (by omega)
    omega
/-- As many blocks do, just if the heaviest block can be pulled. -/
theorem few_iff (hp : openPre h l = 0) (hN : IsTree h l N) (hf : Feas h l) (hps : h'.ps = h.ps) (hj : h'.js = h.js) (hq : openPre h' l = 0) (hN' : IsTree h' l N') (hb : 1 ≤ b) :
    ((fewOf h' N').1 ≤ h'.ps.length ∧ (fewOf h' N').1 ≤ b) ↔ (lightW h N b ≤ h.ps.length * 100000 ∧ (lightW h N b : Int) * h'.shi ≤ 1000 * h'.winch) := by
  have hn8 := (pre_right hp).n8
  have hf' : Feas h' l := by unfold Feas at hf ⊢; rw [truth_ps hps]; exact hf
  have hr' := pre_right hq
  have hs1 := hr'.s1
  have hs2 := hr'.s2
  have hw1 := hr'.w1
  have hmost : ∀ s, s < 2 ^ h.ps.length → mostV h' N' s = mostV h N s := fun s hs => by
    have a := mostV_is hp hN hf hs
    have c := mostV_is hq hN' hf' (s := s) (by rw [hps]; exact hs)
    unfold IsMost at c
    rw [truth_ps hps] at c
    exact IsMost.uniq c a
  have hall : ∀ C, lightCut h' N' C = true ↔ ∀ j, j < manyTo C h.ps.length → mostV h N (blkAt C h.ps.length j) * h'.shi ≤ 1000 * h'.winch := fun C => by
    rw [lightCut_all, hps]
    exact ⟨fun H j hj => by rw [← hmost _ (blkAt_lt j)]; exact H j hj, fun H j hj => by rw [hmost _ (blkAt_lt j)]; exact H j hj⟩
  constructor
  · rintro ⟨h1, h2⟩
    obtain ⟨a, c, d⟩ := few_some h1
    rw [hps, hj] at a
    rw [hps] at c
    have hC := (cuts_b hb).2 ⟨a, by rw [← c]; exact h2⟩
    have hL := lightW_cut hp hN hf hC
    refine ⟨hL, ?_⟩
    have hd := (hall _).1 d
    obtain ⟨Q, hQ⟩ : ∃ Q, (1000 * h'.winch) / h'.shi = Q := ⟨_, rfl⟩
    have hq0 : 0 ≤ Q := by rw [← hQ]; exact Int.ediv_nonneg (by omega) (by omega)
    have hcan : canF h N b ((Q.toNat : Nat) : Int) = true := canF_iff.2 ⟨_, hC, fun j hj => by
      have := hd j hj
      have : mostV h N (blkAt (fewOf h' N').2 h.ps.length j) ≤ Q := by rw [← hQ]; exact Int.le_ediv_of_mul_le (by omega) this
      omega⟩
    have hle := lightW_of hcan
    have h3 : (lightW h N b : Int) ≤ Q := by omega
    have h4 : (lightW h N b : Int) * h'.shi ≤ Q * h'.shi := Int.mul_le_mul_of_nonneg_right h3 (by omega)
    have h5 : Q * h'.shi ≤ 1000 * h'.winch := by rw [← hQ]; exact Int.ediv_mul_le _ (by omega)
    omega
  · rintro ⟨h1, h2⟩
    obtain ⟨C, hC, hm⟩ := canF_iff.1 (lightW_min.2 h1)
    obtain ⟨a, c⟩ := (cuts_b hb).1 hC
    have hd : lightCut h' N' C = true := (hall C).2 fun j hj => Int.le_trans (Int.mul_le_mul_of_nonneg_right (hm j hj) (by omega)) h2
    have hle := few_le (h := h') (N := N') (by rw [hps, hj]; exact a) hd
    rw [hps] at hle ⊢
    obtain ⟨q, g1, g2, g3, g4, rfl⟩ := cutsL_iff.1 a
    have := grow_le_k g2 q.length (Nat.le_refl _)
    rw [g1] at this
    omega
end
end Go.Proofs.Ytojgdallodmanaa

namespace Go.Proofs.Ytojgdallodmanaa
open Go.RowKit

/-- All cuts that begin so, in order. -/
def cutsP : Nat → List Nat → Nat → List (List Nat)
  | 0, p, _ => [p]
  | k + 1, p, next => (List.range (next + 1)).flatMap fun i => cutsP k (p ++ [i]) (max next (i + 1))
def cutsPTo (k : Nat) (p : List Nat) (next i : Nat) : List (List Nat) := (List.range i).flatMap fun i => cutsP k (p ++ [i]) (max next (i + 1))
theorem cutsPTo_zero (k : Nat) (p : List Nat) (next : Nat) : cutsPTo k p next 0 = [] := rfl
theorem cutsPTo_succ (k : Nat) (p : List Nat) (next i : Nat) : cutsPTo k p next (i + 1) = cutsPTo k p next i ++ cutsP k (p ++ [i]) (max next (i + 1)) := by
  unfold cutsPTo
  rw [List.range_succ, List.flatMap_append]
  simp
theorem cutsPTo_end (k : Nat) (p : List Nat) (next : Nat) : cutsPTo k p next (next + 1) = cutsP (k + 1) p next := rfl
theorem cutsP_mem : ∀ (k : Nat) (p : List Nat) (next : Nat) (C : List Nat), C ∈ cutsP k p next ↔ ∃ q, q.length = k ∧ grow next q = true ∧ C = p ++ q := by
  intro k
  induction k with
  | zero =>
    intro p next C
    rw [cutsP, List.mem_singleton]
    constructor
    · rintro rfl; exact ⟨[], rfl, rfl, by simp⟩
    · rintro ⟨q, hq, _, rfl⟩
      obtain rfl : q = [] := List.length_eq_zero_iff.1 hq
      simp
  | succ k ih =>
    intro p next C
    rw [cutsP, List.mem_flatMap]
    constructor
    · rintro ⟨i, hi, hC⟩
      rw [List.mem_range] at hi
      obtain ⟨q, hq, hg, rfl⟩ := (ih _ _ _).1 hC
      refine ⟨i :: q, by simp [hq], ?_, by simp⟩
      simp only [grow, Bool.and_eq_true, decide_eq_true_eq]
      exact ⟨by omega, hg⟩
    · rintro ⟨q, hq, hg, rfl⟩
      match q, hq with
      | i :: q, hq =>
        simp only [grow, Bool.and_eq_true, decide_eq_true_eq] at hg
        exact ⟨i, by rw [List.mem_range]; omega, (ih _ _ _).2 ⟨q, by simpa using hq, hg.2, by simp⟩⟩
theorem flatMap_len_le {α β : Type} {c : Nat} (f : α → List β) : ∀ l : List α, (∀ x ∈ l, (f x).length ≤ c) → (l.flatMap f).length ≤ l.length * c := by
  intro l
  induction l with
  | nil => intro _; simp
  | cons x l ih =>
    intro h
    have h1 := h x (by simp)
    have h2 := ih fun y hy => h y (by simp [hy])
    rw [List.flatMap_cons, List.length_append, List.length_cons, Nat.succ_mul]
    omega
theorem cutsPTo_len (k : Nat) (p : List Nat) (next i : Nat) (hi : i ≤ 8) (h : ∀ j, j < i → (cutsP k (p ++ [j]) (max next (j + 1))).length ≤ 8 ^ k) : (cutsPTo k p next i).length ≤ 8 ^ (k + 1) := by
  have := flatMap_len_le (c := 8 ^ k) (fun i => cutsP k (p ++ [i]) (max next (i + 1))) (List.range i) (fun j hj => h j (by simpa using hj))
  rw [List.length_range] at this
  have h2 : i * 8 ^ k ≤ 8 * 8 ^ k := Nat.mul_le_mul_right _ hi
  rw [Nat.pow_succ, Nat.mul_comm (8 ^ k) 8]
  exact Nat.le_trans this h2
theorem cutsP_len : ∀ (k : Nat) (p : List Nat) (next : Nat), next + k ≤ 8 → (cutsP k p next).length ≤ 8 ^ k := by
  intro k
  induction k with
  | zero => intro p next _; simp [cutsP]
  | succ k ih =>
    intro p next h
    rw [← cutsPTo_end]
    exact cutsPTo_len k p next _ (by omega) fun j hj => ih _ _ (by omega)
theorem cutsF_cutsP (js : List (Int × Int)) (n : Nat) : ∀ (k : Nat) (p : List Nat) (next : Nat), p.length + k = n → next ≤ p.length → cutsF js n n k p next = ((cutsP k p next).filter fun q => hangCut js q n).map pad := by
  intro k
  induction k with
  | zero =>
    intro p next _ _
    rw [cutsF, cutsP, List.filter_cons, List.filter_nil]
    split <;> rfl
  | succ k ih =>
    intro p next hk hn
    rw [cutsF, cutsP, List.filter_flatMap, List.map_flatMap]
    rw [show min (next + 1) n = next + 1 from by omega]
    have : ∀ l : List Nat, (∀ i ∈ l, i ≤ next) → l.flatMap (fun i => cutsF js n n k (p ++ [i]) (max next (i + 1))) = l.flatMap (fun a => List.map pad (List.filter (fun q => hangCut js q n) (cutsP k (p ++ [a]) (max next (a + 1))))) := by
      intro l
      induction l with
      | nil => intro _; rfl
      | cons i l ihl =>
        intro h
        have hi := h i (by simp)
        rw [List.flatMap_cons, List.flatMap_cons, ih (p ++ [i]) (max next (i + 1)) (by simp; omega) (by simp; omega), ihl fun j hj => h j (by simp [hj])]
    exact this _ fun i hi => by rw [List.mem_range] at hi; omega
/-- The cuts of n parts. -/
def allCuts (n : Nat) : List (List Nat) := cutsP n [] 0
theorem allCuts_mem {n : Nat} {q : List Nat} : q ∈ allCuts n ↔ q.length = n ∧ grow 0 q = true := by
  unfold allCuts
  rw [cutsP_mem]
  constructor
  · rintro ⟨r, h1, h2, rfl⟩
    exact ⟨by simpa using h1, by simpa using h2⟩
  · rintro ⟨h1, h2⟩
    exact ⟨q, h1, h2, by simp⟩
theorem cutsL_all (js : List (Int × Int)) (n : Nat) : cutsL js n n = ((allCuts n).filter fun q => hangCut js q n).map pad := cutsF_cutsP js n n [] 0 (by simp) (by simp)
section
variable {h : Hul} {l : List Wgh} {N : List Nd} {b : Nat}
/-- The first of the fewest. -/
theorem fold_keep {m : Nat} : ∀ (L : List (List Nat)) (r : Nat × List Nat), (∀ C ∈ L, lightCut h N C = true → m < manyTo C h.ps.length) → m < r.1 → m < (L.foldl (fewStep h N) r).1 := by
  intro L
  induction L with
  | nil => intro r _ hr; exact hr
  | cons C L ih =>
    intro r hL hr
    rw [List.foldl_cons]
    refine ih _ (fun D hD => hL D (by simp [hD])) ?_
    unfold fewStep
    split
    · rename_i hc
      simp only [Bool.and_eq_true, decide_eq_true_eq] at hc
      exact hL C (by simp) hc.2
    · exact hr
theorem fold_stay {r : Nat × List Nat} : ∀ (L : List (List Nat)), (∀ C ∈ L, lightCut h N C = true → r.1 ≤ manyTo C h.ps.length) → L.foldl (fewStep h N) r = r := by
  intro L
  induction L with
  | nil => intro _; rfl
  | cons C L ih =>
    intro hL
    rw [List.foldl_cons]
    have : fewStep h N r C = r := by
      unfold fewStep
      rw [if_neg]
      intro hc
      simp only [Bool.and_eq_true, decide_eq_true_eq] at hc
      have := hL C (by simp) hc.2
      omega
    rw [this]
    exact ih fun D hD => hL D (by simp [hD])
/-- A cut that has so many blocks, each of which hangs together and can be pulled. -/
def qualB (h : Hul) (N : List Nd) (m : Nat) (q : List Nat) : Bool := decide (manyTo (pad q) h.ps.length = m) && (hangCut h.js q h.ps.length && lightCut h N (pad q))
theorem few_found {m i : Nat} {q : List Nat} (hm : m ≤ h.ps.length) (hq : (allCuts h.ps.length)[i]? = some q) (h1 : ∀ m', m' < m → ∀ q' ∈ allCuts h.ps.length, qualB h N m' q' = false) (h2 : ∀ j, j < i → ∀ q', (allCuts h.ps.length)[j]? = some q' → qualB h N m q' = false) (h3 : qualB h N m q = true) : fewOf h N = (m, pad q) := by
  obtain ⟨hi, rfl⟩ := List.getElem?_eq_some_iff.1 hq
  have hsplit : allCuts h.ps.length = (allCuts h.ps.length).take i ++ (allCuts h.ps.length)[i] :: (allCuts h.ps.length).drop (i + 1) := by
    rw [← List.drop_eq_getElem_cons hi, List.take_append_drop]
  generalize hqq : (allCuts h.ps.length)[i] = q at *
  unfold qualB at h3
  simp only [Bool.and_eq_true, decide_eq_true_eq] at h3
  obtain ⟨a1, a2, a3⟩ := h3
  have hmem : ∀ q', q' ∈ (allCuts h.ps.length).take i → q' ∈ allCuts h.ps.length := fun q' hq' => List.mem_of_mem_take hq'
  have hmem2 : ∀ q', q' ∈ (allCuts h.ps.length).drop (i + 1) → q' ∈ allCuts h.ps.length := fun q' hq' => List.mem_of_mem_drop hq'
  have hlow : ∀ q', q' ∈ allCuts h.ps.length → hangCut h.js q' h.ps.length = true → lightCut h N (pad q') = true → m ≤ manyTo (pad q') h.ps.length := fun q' hq' hh hl => by
    rcases Nat.lt_or_ge (manyTo (pad q') h.ps.length) m with hlt | hge
    · have := h1 _ hlt q' hq'
      unfold qualB at this
      rw [hh, hl] at this
      simp at this
    · exact hge
  unfold fewOf fewTo
  rw [cutsL_all, hsplit, List.filter_append, List.filter_cons, if_pos a2, List.map_append, List.map_cons, List.foldl_append, List.foldl_cons]
  have k1 := fold_keep (h := h) (N := N) (m := m) (((allCuts h.ps.length).take i).filter (fun q => hangCut h.js q h.ps.length) |>.map pad) (h.ps.length + 1, List.replicate 8 0) (fun C hC hl => by
    obtain ⟨q', hq', rfl⟩ := List.mem_map.1 hC
    obtain ⟨hq1, hq2⟩ := List.mem_filter.1 hq'
    have := hlow q' (hmem q' hq1) hq2 hl
    obtain ⟨j, hj, he⟩ := List.mem_take_iff_getElem.1 hq1
    have h4 := h2 j (by omega) q' (by rw [List.getElem?_eq_getElem (by omega), he])
    unfold qualB at h4
    rw [hq2, hl] at h4
    simp at h4
    omega) (by simp only; omega)
  generalize (((allCuts h.ps.length).take i).filter (fun q => hangCut h.js q h.ps.length) |>.map pad).foldl (fewStep h N) (h.ps.length + 1, List.replicate 8 0) = r at k1
  have k2 : fewStep h N r (pad q) = (m, pad q) := by
    unfold fewStep
    rw [if_pos (by rw [a3, a1]; simpa using k1), a1]
  rw [k2]
  refine fold_stay _ fun C hC hl => ?_
  obtain ⟨q', hq', rfl⟩ := List.mem_map.1 hC
  obtain ⟨hq1, hq2⟩ := List.mem_filter.1 hq'
  exact hlow q' (hmem2 q' hq1) hq2 hl
theorem many_pos {q : List Nat} {n : Nat} (hq : q.length = n) (hn : 1 ≤ n) : 1 ≤ manyTo (pad q) n := by
  obtain ⟨k, rfl⟩ : ∃ k, n = k + 1 := ⟨n - 1, by omega⟩
  obtain ⟨x, hx⟩ : ∃ x, q[k]? = some x := ⟨_, List.getElem?_eq_getElem (by omega)⟩
  rw [manyTo, pad_at hx]
  simp only
  omega
theorem few_lost (hn : 1 ≤ h.ps.length) (h1 : ∀ m', 1 ≤ m' → m' ≤ h.ps.length → ∀ q' ∈ allCuts h.ps.length, qualB h N m' q' = false) : h.ps.length < (fewOf h N).1 := by
  rcases Nat.lt_or_ge h.ps.length (fewOf h N).1 with hlt | hge
  · exact hlt
  · exfalso
    obtain ⟨a, b, c⟩ := few_some hge
    rw [cutsL_all] at a
    obtain ⟨q, hq, e⟩ := List.mem_map.1 a
    obtain ⟨q1, q2⟩ := List.mem_filter.1 hq
    have hql := (allCuts_mem.1 q1).1
    rw [← e] at b c
    have := h1 (manyTo (pad q) h.ps.length) (many_pos hql hn) (by omega) q q1
    unfold qualB at this
    rw [q2, c] at this
    simp at this
end
end Go.Proofs.Ytojgdallodmanaa
