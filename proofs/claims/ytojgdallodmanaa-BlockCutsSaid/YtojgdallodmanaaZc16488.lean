/- The blocks of a cut, asked for in a region of (block.task).can, within a round (printed by mkE14.py). (block.task).can: whether no block of some cut has to be heavier than so much. -/
import Derived.Test.YtojgdallodmanaaZf22f08
import Derived.Test.YtojgdallodmanaaZ9acd8a
import Derived.Test.YtojgdallodmanaaYE10
import Derived.Test.YtojgdallodmanaaYLift
namespace Go.Proofs.Ytojgdallodmanaa
open Go.RowKit Go.Shelf

def regionNo2 (n : Nat) : Code → Option Code
  | .region id ops d => if id = n then some (.region id ops d) else none
  | .seq a b => match regionNo2 n a with
    | some c => some c
    | none => regionNo2 n b
  | .cond _ a b => match regionNo2 n a with
    | some c => some c
    | none => regionNo2 n b
  | .block _ c => regionNo2 n c
  | .loop c => regionNo2 n c
  | .scope c => regionNo2 n c
  | .rangeFunc _ _ a b => match regionNo2 n a with
    | some c => some c
    | none => regionNo2 n b
  | _ => none
noncomputable def regionOf2 (f : Func) (n : Nat) : Code := (f.body.bind (regionNo2 n)).getD .skip
noncomputable def ops117_3 : Array Oper := opsOf (regionOf2 Try.f117 3)
set_option maxRecDepth 1000000 in
set_option maxHeartbeats 4000000 in
theorem st117_full {Q : Exit → Act → World → Prop} {V : World} {g gt gc n cap K c0 c1 c2 c3 c4 c5 c6 c7 s0 s1 s2 s3 s4 s5 s6 s7 : Nat} {A : Option Addr} {z0 z1 z3 z4 z7 z8 z9 z10 z11 z12 z13 z26 z27 z28 z29 z30 : Value} (hbk : ∀ W, Calls Try.prog 79 #[.agg #[nv c0, nv c1, nv c2, nv c3, nv c4, nv c5, nv c6, nv c7], .int .i64 n] W fun e w' => e = .returned (.tuple #[.agg #[nv s0, nv s1, nv s2, nv s3, nv s4, nv s5, nv s6, nv s7], nv K]) ∧ Below W.heap.size W w')
    (hQ : ∀ gg u14 u15 u16 u17 u18 u19 u20 u21 u22 u23 u24 u25 wx, V.heap.size ≤ gg → gg < wx.heap.size → Below V.heap.size V wx → Blk wx gg 122 #[nv s0, nv s1, nv s2, nv s3, nv s4, nv s5, nv s6, nv s7] → Q .normal ⟨#[z0, z1, .pointer (some ⟨gt, 0, none⟩), z3, z4, .pointer (some ⟨gc, 0, none⟩), .pointer (some ⟨gg, 0, none⟩), nv K, z8, z9, z10, z11, z12, z13, u14, u15, u16, u17, u18, u19, u20, u21, u22, u23, u24, u25, z26, z27, z28, z29, z30], []⟩ wx) {w : World} (hS : Below V.heap.size V w) {gg : Nat} (hg : V.heap.size ≤ gg) (hb : Blk w gg 122 #[.int .i64 0, .int .i64 0, .int .i64 0, .int .i64 0, .int .i64 0, .int .i64 0, .int .i64 0, .int .i64 0]) :
    wpAnyH Try.prog .any ops117_3 (OnlyN Q) (fun W => Below V.heap.size V W) 2 #[true, true, true, true, true, true, true, true, true, true, true, true, true, false, false] ⟨#[z0, z1, .pointer (some ⟨gt, 0, none⟩), z3, z4, .pointer (some ⟨gc, 0, none⟩), .pointer (some ⟨gg, 0, none⟩), z7, z8, z9, z10, z11, z12, z13, .tuple #[.agg #[nv s0, nv s1, nv s2, nv s3, nv s4, nv s5, nv s6, nv s7], nv K], .agg #[nv c0, nv c1, nv c2, nv c3, nv c4, nv c5, nv c6, nv c7], .pointer (some ⟨gt, 0, none⟩), ptr g, ptr g, .pointer (some ⟨g, 0, none⟩), .pointer (some ⟨g, 0, none⟩), .slice A n cap, .int .i64 n, .tuple #[.agg #[nv s0, nv s1, nv s2, nv s3, nv s4, nv s5, nv s6, nv s7], nv K], .agg #[nv s0, nv s1, nv s2, nv s3, nv s4, nv s5, nv s6, nv s7], nv K, z26, z27, z28, z29, z30], []⟩ w := by
  have _used := hbk
  refine wpAnyH_ready (rs := [13]) (by kernel_rfl) (by simp) ?_
  refine AllReadyH.cons (o := opN ops117_3 13) (by kernel_rfl) (fun K' hK => ?_) AllReadyH.nil
  obtain ⟨o, e⟩ : ∃ o, o = opN ops117_3 13 := ⟨_, rfl⟩
  rw [← e]
  conv at e => rhs; whnf
  subst e
  have hbx := below8 hS hg (nv s0) (nv s1) (nv s2) (nv s3) (nv s4) (nv s5) (nv s6) (nv s7)
  have hblk := hb.set8 (nv s0) (nv s1) (nv s2) (nv s3) (nv s4) (nv s5) (nv s6) (nv s7)
  have hlt := hb.lt
  have e0 := hb.cell 0
  have f0 := hb.frozen 0
  have e1 := hb.cell 1
  have f1 := hb.frozen 1
  have e2 := hb.cell 2
  have f2 := hb.frozen 2
  have e3 := hb.cell 3
  have f3 := hb.frozen 3
  have e4 := hb.cell 4
  have f4 := hb.frozen 4
  have e5 := hb.cell 5
  have f5 := hb.frozen 5
  have e6 := hb.cell 6
  have f6 := hb.frozen 6
  have e7 := hb.cell 7
  have f7 := hb.frozen 7
  go_simp
  refine hK.out _ _ hbx (fun hHeld => ?_)
  clear hK e0 e1 e2 e3 e4 e5 e6 e7 f0 f1 f2 f3 f4 f5 f6 f7
  (try simp only [List.setIfInBounds_toArray, List.set_cons_zero, List.set_cons_succ])
  obtain ⟨wx, hwx⟩ : ∃ wx, ((((((((w.setCell ⟨gg, 0, none⟩ (nv s0)).setCell ⟨gg, 1, none⟩ (nv s1)).setCell ⟨gg, 2, none⟩ (nv s2)).setCell ⟨gg, 3, none⟩ (nv s3)).setCell ⟨gg, 4, none⟩ (nv s4)).setCell ⟨gg, 5, none⟩ (nv s5)).setCell ⟨gg, 6, none⟩ (nv s6)).setCell ⟨gg, 7, none⟩ (nv s7)) = wx := ⟨_, rfl⟩
  have hwz : wx.heap.size = w.heap.size := by rw [← hwx]; simp
  rw [hwx] at hbx hblk hHeld ⊢
  clear hwx
  obtain ⟨o, e0⟩ : ∃ o, o = opN ops117_3 14 := ⟨_, rfl⟩
  have e := e0
  conv at e => rhs; whnf
  refine wpAnyH_take (i := 14) (oi := o) (v := nv K) (by rw [e0]; kernel_rfl) (by kernel_rfl) (by kernel_rfl) (by kernel_rfl) (fun _ _ _ h => h) (Or.inl ⟨by rw [e]; rfl, ?_⟩) (by assumption) ?_
  · clear e0
    subst e
    intro w hSw
    go_simp
  clear e0
  subst e
  (try simp only [Act.put, List.setIfInBounds_toArray, List.set_cons_zero, List.set_cons_succ])
  refine wpAnyH_done (by kernel_rfl) ?_ _
  exact hQ gg _ _ _ _ _ _ _ _ _ _ _ _ wx hg (by omega) hbx hblk
set_option maxRecDepth 1000000 in
set_option maxHeartbeats 4000000 in
theorem st117_b {Q : Exit → Act → World → Prop} {V : World} {g gt gc n cap K c0 c1 c2 c3 c4 c5 c6 c7 s0 s1 s2 s3 s4 s5 s6 s7 : Nat} {A : Option Addr} {z0 z1 z3 z4 z6 z7 z8 z9 z10 z11 z12 z13 z26 z27 z28 z29 z30 : Value} (hbk : ∀ W, Calls Try.prog 79 #[.agg #[nv c0, nv c1, nv c2, nv c3, nv c4, nv c5, nv c6, nv c7], .int .i64 n] W fun e w' => e = .returned (.tuple #[.agg #[nv s0, nv s1, nv s2, nv s3, nv s4, nv s5, nv s6, nv s7], nv K]) ∧ Below W.heap.size W w')
    (hQ : ∀ gg u14 u15 u16 u17 u18 u19 u20 u21 u22 u23 u24 u25 wx, V.heap.size ≤ gg → gg < wx.heap.size → Below V.heap.size V wx → Blk wx gg 122 #[nv s0, nv s1, nv s2, nv s3, nv s4, nv s5, nv s6, nv s7] → Q .normal ⟨#[z0, z1, .pointer (some ⟨gt, 0, none⟩), z3, z4, .pointer (some ⟨gc, 0, none⟩), .pointer (some ⟨gg, 0, none⟩), nv K, z8, z9, z10, z11, z12, z13, u14, u15, u16, u17, u18, u19, u20, u21, u22, u23, u24, u25, z26, z27, z28, z29, z30], []⟩ wx) {w : World} (hS : Below V.heap.size V w)  :
    wpAnyH Try.prog .any ops117_3 (OnlyN Q) (fun W => Below V.heap.size V W) 3 #[true, true, true, true, true, true, true, true, true, true, true, true, false, false, false] ⟨#[z0, z1, .pointer (some ⟨gt, 0, none⟩), z3, z4, .pointer (some ⟨gc, 0, none⟩), z6, z7, z8, z9, z10, z11, z12, z13, .tuple #[.agg #[nv s0, nv s1, nv s2, nv s3, nv s4, nv s5, nv s6, nv s7], nv K], .agg #[nv c0, nv c1, nv c2, nv c3, nv c4, nv c5, nv c6, nv c7], .pointer (some ⟨gt, 0, none⟩), ptr g, ptr g, .pointer (some ⟨g, 0, none⟩), .pointer (some ⟨g, 0, none⟩), .slice A n cap, .int .i64 n, .tuple #[.agg #[nv s0, nv s1, nv s2, nv s3, nv s4, nv s5, nv s6, nv s7], nv K], .agg #[nv s0, nv s1, nv s2, nv s3, nv s4, nv s5, nv s6, nv s7], nv K, z26, z27, z28, z29, z30], []⟩ w := by
  refine wpAnyH_ready (rs := [12]) (by kernel_rfl) (by simp) ?_
  refine AllReadyH.cons (o := opN ops117_3 12) (by kernel_rfl) (fun K' hK => ?_) AllReadyH.nil
  obtain ⟨o, e⟩ : ∃ o, o = opN ops117_3 12 := ⟨_, rfl⟩
  rw [← e]
  conv at e => rhs; whnf
  subst e
  go_simp
  refine hK.out _ _ (belowA hS _) (fun hHeld => ?_)
  exact st117_full hbk hQ (belowA hS _) hS.size (Blk.new w 122 _)
set_option maxRecDepth 1000000 in
set_option maxHeartbeats 4000000 in
theorem st117_c {Q : Exit → Act → World → Prop} {V : World} {g gt gc n cap K c0 c1 c2 c3 c4 c5 c6 c7 s0 s1 s2 s3 s4 s5 s6 s7 : Nat} {A : Option Addr} {z0 z1 z3 z4 z7 z8 z9 z10 z11 z12 z13 z14 z23 z24 z25 z26 z27 z28 z29 z30 : Value} (hbk : ∀ W, Calls Try.prog 79 #[.agg #[nv c0, nv c1, nv c2, nv c3, nv c4, nv c5, nv c6, nv c7], .int .i64 n] W fun e w' => e = .returned (.tuple #[.agg #[nv s0, nv s1, nv s2, nv s3, nv s4, nv s5, nv s6, nv s7], nv K]) ∧ Below W.heap.size W w')
    (hQ : ∀ gg u14 u15 u16 u17 u18 u19 u20 u21 u22 u23 u24 u25 wx, V.heap.size ≤ gg → gg < wx.heap.size → Below V.heap.size V wx → Blk wx gg 122 #[nv s0, nv s1, nv s2, nv s3, nv s4, nv s5, nv s6, nv s7] → Q .normal ⟨#[z0, z1, .pointer (some ⟨gt, 0, none⟩), z3, z4, .pointer (some ⟨gc, 0, none⟩), .pointer (some ⟨gg, 0, none⟩), nv K, z8, z9, z10, z11, z12, z13, u14, u15, u16, u17, u18, u19, u20, u21, u22, u23, u24, u25, z26, z27, z28, z29, z30], []⟩ wx) {w : World} (hS : Below V.heap.size V w) {gg : Nat} (hg : V.heap.size ≤ gg) (hb : Blk w gg 122 #[.int .i64 0, .int .i64 0, .int .i64 0, .int .i64 0, .int .i64 0, .int .i64 0, .int .i64 0, .int .i64 0]) :
    wpAnyH Try.prog .any ops117_3 (OnlyN Q) (fun W => Below V.heap.size V W) 6 #[true, true, true, true, true, true, true, true, false, false, false, false, true, false, false] ⟨#[z0, z1, .pointer (some ⟨gt, 0, none⟩), z3, z4, .pointer (some ⟨gc, 0, none⟩), .pointer (some ⟨gg, 0, none⟩), z7, z8, z9, z10, z11, z12, z13, z14, .agg #[nv c0, nv c1, nv c2, nv c3, nv c4, nv c5, nv c6, nv c7], .pointer (some ⟨gt, 0, none⟩), ptr g, ptr g, .pointer (some ⟨g, 0, none⟩), .pointer (some ⟨g, 0, none⟩), .slice A n cap, .int .i64 n, z23, z24, z25, z26, z27, z28, z29, z30], []⟩ w := by
  refine wpAnyH_ready (rs := [8]) (by kernel_rfl) (by simp) ?_
  refine AllReadyH.cons (o := opN ops117_3 8) (by kernel_rfl) (fun K' hK => ?_) ?_
  · obtain ⟨o, e⟩ : ∃ o, o = opN ops117_3 8 := ⟨_, rfl⟩
    rw [← e]
    conv at e => rhs; whnf
    subst e
    go_simp
    refine (hbk w).mono ?_
    rintro e w1 ⟨rfl, hb1⟩
    refine hK.out _ _ (belowT hS hb1) (fun hHeld => ?_)
    clear hK
    (try simp only [List.setIfInBounds_toArray, List.set_cons_zero, List.set_cons_succ])
    obtain ⟨o, e0⟩ : ∃ o, o = opN ops117_3 9 := ⟨_, rfl⟩
    have e := e0
    conv at e => rhs; whnf
    refine wpAnyH_take (i := 9) (oi := o) (v := .tuple #[.agg #[nv s0, nv s1, nv s2, nv s3, nv s4, nv s5, nv s6, nv s7], nv K]) (by rw [e0]; kernel_rfl) (by kernel_rfl) (by kernel_rfl) (by kernel_rfl) (fun _ _ _ h => h) (Or.inl ⟨by rw [e]; rfl, ?_⟩) (by assumption) ?_
    · clear e0
      subst e
      intro w hSw
      go_simp
    clear e0
    subst e
    (try simp only [Act.put, List.setIfInBounds_toArray, List.set_cons_zero, List.set_cons_succ])
    obtain ⟨o, e0⟩ : ∃ o, o = opN ops117_3 10 := ⟨_, rfl⟩
    have e := e0
    conv at e => rhs; whnf
    refine wpAnyH_take (i := 10) (oi := o) (v := .agg #[nv s0, nv s1, nv s2, nv s3, nv s4, nv s5, nv s6, nv s7]) (by rw [e0]; kernel_rfl) (by kernel_rfl) (by kernel_rfl) (by kernel_rfl) (fun _ _ _ h => h) (Or.inl ⟨by rw [e]; rfl, ?_⟩) (by assumption) ?_
    · clear e0
      subst e
      intro w hSw
      go_simp
    clear e0
    subst e
    (try simp only [Act.put, List.setIfInBounds_toArray, List.set_cons_zero, List.set_cons_succ])
    obtain ⟨o, e0⟩ : ∃ o, o = opN ops117_3 11 := ⟨_, rfl⟩
    have e := e0
    conv at e => rhs; whnf
    refine wpAnyH_take (i := 11) (oi := o) (v := nv K) (by rw [e0]; kernel_rfl) (by kernel_rfl) (by kernel_rfl) (by kernel_rfl) (fun _ _ _ h => h) (Or.inl ⟨by rw [e]; rfl, ?_⟩) (by assumption) ?_
    · clear e0
      subst e
      intro w hSw
      go_simp
    clear e0
    subst e
    (try simp only [Act.put, List.setIfInBounds_toArray, List.set_cons_zero, List.set_cons_succ])
    exact st117_full hbk hQ (belowT hS hb1) hg (hb.same (hb1.block _ hb.lt))
  exact AllReadyH.nil
set_option maxRecDepth 1000000 in
set_option maxHeartbeats 4000000 in
theorem st117_a {Q : Exit → Act → World → Prop} {V : World} {g gt gc n cap K c0 c1 c2 c3 c4 c5 c6 c7 s0 s1 s2 s3 s4 s5 s6 s7 : Nat} {A : Option Addr} {z0 z1 z3 z4 z6 z7 z8 z9 z10 z11 z12 z13 z14 z23 z24 z25 z26 z27 z28 z29 z30 : Value} (hbk : ∀ W, Calls Try.prog 79 #[.agg #[nv c0, nv c1, nv c2, nv c3, nv c4, nv c5, nv c6, nv c7], .int .i64 n] W fun e w' => e = .returned (.tuple #[.agg #[nv s0, nv s1, nv s2, nv s3, nv s4, nv s5, nv s6, nv s7], nv K]) ∧ Below W.heap.size W w')
    (hQ : ∀ gg u14 u15 u16 u17 u18 u19 u20 u21 u22 u23 u24 u25 wx, V.heap.size ≤ gg → gg < wx.heap.size → Below V.heap.size V wx → Blk wx gg 122 #[nv s0, nv s1, nv s2, nv s3, nv s4, nv s5, nv s6, nv s7] → Q .normal ⟨#[z0, z1, .pointer (some ⟨gt, 0, none⟩), z3, z4, .pointer (some ⟨gc, 0, none⟩), .pointer (some ⟨gg, 0, none⟩), nv K, z8, z9, z10, z11, z12, z13, u14, u15, u16, u17, u18, u19, u20, u21, u22, u23, u24, u25, z26, z27, z28, z29, z30], []⟩ wx) {w : World} (hS : Below V.heap.size V w)  :
    wpAnyH Try.prog .any ops117_3 (OnlyN Q) (fun W => Below V.heap.size V W) 7 #[true, true, true, true, true, true, true, true, false, false, false, false, false, false, false] ⟨#[z0, z1, .pointer (some ⟨gt, 0, none⟩), z3, z4, .pointer (some ⟨gc, 0, none⟩), z6, z7, z8, z9, z10, z11, z12, z13, z14, .agg #[nv c0, nv c1, nv c2, nv c3, nv c4, nv c5, nv c6, nv c7], .pointer (some ⟨gt, 0, none⟩), ptr g, ptr g, .pointer (some ⟨g, 0, none⟩), .pointer (some ⟨g, 0, none⟩), .slice A n cap, .int .i64 n, z23, z24, z25, z26, z27, z28, z29, z30], []⟩ w := by
  refine wpAnyH_ready (rs := [8, 12]) (by kernel_rfl) (by simp) ?_
  refine AllReadyH.cons (o := opN ops117_3 8) (by kernel_rfl) (fun K' hK => ?_) ?_
  · obtain ⟨o, e⟩ : ∃ o, o = opN ops117_3 8 := ⟨_, rfl⟩
    rw [← e]
    conv at e => rhs; whnf
    subst e
    go_simp
    refine (hbk w).mono ?_
    rintro e w1 ⟨rfl, hb1⟩
    refine hK.out _ _ (belowT hS hb1) (fun hHeld => ?_)
    clear hK
    (try simp only [List.setIfInBounds_toArray, List.set_cons_zero, List.set_cons_succ])
    obtain ⟨o, e0⟩ : ∃ o, o = opN ops117_3 9 := ⟨_, rfl⟩
    have e := e0
    conv at e => rhs; whnf
    refine wpAnyH_take (i := 9) (oi := o) (v := .tuple #[.agg #[nv s0, nv s1, nv s2, nv s3, nv s4, nv s5, nv s6, nv s7], nv K]) (by rw [e0]; kernel_rfl) (by kernel_rfl) (by kernel_rfl) (by kernel_rfl) (fun _ _ _ h => h) (Or.inl ⟨by rw [e]; rfl, ?_⟩) (by assumption) ?_
    · clear e0
      subst e
      intro w hSw
      go_simp
    clear e0
    subst e
    (try simp only [Act.put, List.setIfInBounds_toArray, List.set_cons_zero, List.set_cons_succ])
    obtain ⟨o, e0⟩ : ∃ o, o = opN ops117_3 10 := ⟨_, rfl⟩
    have e := e0
    conv at e => rhs; whnf
    refine wpAnyH_take (i := 10) (oi := o) (v := .agg #[nv s0, nv s1, nv s2, nv s3, nv s4, nv s5, nv s6, nv s7]) (by rw [e0]; kernel_rfl) (by kernel_rfl) (by kernel_rfl) (by kernel_rfl) (fun _ _ _ h => h) (Or.inl ⟨by rw [e]; rfl, ?_⟩) (by assumption) ?_
    · clear e0
      subst e
      intro w hSw
      go_simp
    clear e0
    subst e
    (try simp only [Act.put, List.setIfInBounds_toArray, List.set_cons_zero, List.set_cons_succ])
    obtain ⟨o, e0⟩ : ∃ o, o = opN ops117_3 11 := ⟨_, rfl⟩
    have e := e0
    conv at e => rhs; whnf
    refine wpAnyH_take (i := 11) (oi := o) (v := nv K) (by rw [e0]; kernel_rfl) (by kernel_rfl) (by kernel_rfl) (by kernel_rfl) (fun _ _ _ h => h) (Or.inl ⟨by rw [e]; rfl, ?_⟩) (by assumption) ?_
    · clear e0
      subst e
      intro w hSw
      go_simp
    clear e0
    subst e
    (try simp only [Act.put, List.setIfInBounds_toArray, List.set_cons_zero, List.set_cons_succ])
    exact st117_b hbk hQ (belowT hS hb1)
  refine AllReadyH.cons (o := opN ops117_3 12) (by kernel_rfl) (fun K' hK => ?_) AllReadyH.nil
  obtain ⟨o, e⟩ : ∃ o, o = opN ops117_3 12 := ⟨_, rfl⟩
  rw [← e]
  conv at e => rhs; whnf
  subst e
  go_simp
  refine hK.out _ _ (belowA hS _) (fun hHeld => ?_)
  exact st117_c hbk hQ (belowA hS _) hS.size (Blk.new w 122 _)
set_option maxRecDepth 1000000 in
set_option maxHeartbeats 4000000 in
theorem reg117_3 {Q : Exit → Act → World → Prop} {V : World} {g gt gc m l2 n cap K c0 c1 c2 c3 c4 c5 c6 c7 s0 s1 s2 s3 s4 s5 s6 s7 : Nat} {A : Option Addr} {z0 z1 z3 z4 z6 z7 z8 z9 z10 z11 z12 z13 z14 z15 z16 z17 z18 z19 z20 z21 z22 z23 z24 z25 z26 z27 z28 z29 z30 : Value}
    (r0 : V.cell? ⟨gc, 0, none⟩ = some (nv c0)) (r1 : V.cell? ⟨gc, 1, none⟩ = some (nv c1)) (r2 : V.cell? ⟨gc, 2, none⟩ = some (nv c2)) (r3 : V.cell? ⟨gc, 3, none⟩ = some (nv c3)) (r4 : V.cell? ⟨gc, 4, none⟩ = some (nv c4)) (r5 : V.cell? ⟨gc, 5, none⟩ = some (nv c5)) (r6 : V.cell? ⟨gc, 6, none⟩ = some (nv c6)) (r7 : V.cell? ⟨gc, 7, none⟩ = some (nv c7)) (rt : V.cell? ⟨gt, 0, none⟩ = some (ptr g)) (rg : V.cell? ⟨g, 0, none⟩ = some (.slice A n cap)) (hbk : ∀ W, Calls Try.prog 79 #[.agg #[nv c0, nv c1, nv c2, nv c3, nv c4, nv c5, nv c6, nv c7], .int .i64 n] W fun e w' => e = .returned (.tuple #[.agg #[nv s0, nv s1, nv s2, nv s3, nv s4, nv s5, nv s6, nv s7], nv K]) ∧ Below W.heap.size W w')
    (hQ : ∀ gg u14 u15 u16 u17 u18 u19 u20 u21 u22 u23 u24 u25 wx, V.heap.size ≤ gg → gg < wx.heap.size → Below V.heap.size V wx → Blk wx gg 122 #[nv s0, nv s1, nv s2, nv s3, nv s4, nv s5, nv s6, nv s7] → Q .normal ⟨#[z0, z1, .pointer (some ⟨gt, 0, none⟩), z3, z4, .pointer (some ⟨gc, 0, none⟩), .pointer (some ⟨gg, 0, none⟩), nv K, z8, z9, z10, z11, z12, z13, u14, u15, u16, u17, u18, u19, u20, u21, u22, u23, u24, u25, z26, z27, z28, z29, z30], []⟩ wx) :
    (regionOf2 Try.f117 3).wpIn (Fence.wide.inRound l2) m Try.prog Q ⟨#[z0, z1, .pointer (some ⟨gt, 0, none⟩), z3, z4, .pointer (some ⟨gc, 0, none⟩), z6, z7, z8, z9, z10, z11, z12, z13, z14, z15, z16, z17, z18, z19, z20, z21, z22, z23, z24, z25, z26, z27, z28, z29, z30], []⟩ V := by
  have e : regionOf2 Try.f117 3 = Code.region 3 ops117_3 true := by kernel_rfl
  rw [e]
  have hHeld : (fun W => Below V.heap.size V W) V.drew := belowDq (belowR V)
  refine wpIn_region_lift (S := fun W => Below V.heap.size V W) (by kernel_rfl) (by kernel_rfl) ?_
  have hsz : ops117_3.size = 15 := by kernel_rfl
  have hrep : Array.replicate 15 false = #[false, false, false, false, false, false, false, false, false, false, false, false, false, false, false] := by kernel_rfl
  rw [hsz, hrep]
  obtain ⟨o, e0⟩ : ∃ o, o = opN ops117_3 0 := ⟨_, rfl⟩
  have e := e0
  conv at e => rhs; whnf
  refine wpAnyH_take (i := 0) (oi := o) (v := .agg #[nv c0, nv c1, nv c2, nv c3, nv c4, nv c5, nv c6, nv c7]) (by rw [e0]; kernel_rfl) (by kernel_rfl) (by kernel_rfl) (by kernel_rfl) (fun _ _ _ h => h) (Or.inl ⟨by rw [e]; rfl, ?_⟩) (by assumption) ?_
  · clear e0
    subst e
    intro w hSw
    have hSw : Below V.heap.size V w := hSw
    have k0 := keepC hSw r0; have k1 := keepC hSw r1; have k2 := keepC hSw r2; have k3 := keepC hSw r3; have k4 := keepC hSw r4; have k5 := keepC hSw r5; have k6 := keepC hSw r6; have k7 := keepC hSw r7
    have kt := keepC hSw rt
    have kg := keepC hSw rg
    go_simp
  clear e0
  subst e
  (try simp only [Act.put, List.setIfInBounds_toArray, List.set_cons_zero, List.set_cons_succ])
  obtain ⟨o, e0⟩ : ∃ o, o = opN ops117_3 1 := ⟨_, rfl⟩
  have e := e0
  conv at e => rhs; whnf
  refine wpAnyH_take (i := 1) (oi := o) (v := .pointer (some ⟨gt, 0, none⟩)) (by rw [e0]; kernel_rfl) (by kernel_rfl) (by kernel_rfl) (by kernel_rfl) (fun _ _ _ h => h) (Or.inl ⟨by rw [e]; rfl, ?_⟩) (by assumption) ?_
  · clear e0
    subst e
    intro w hSw
    have hSw : Below V.heap.size V w := hSw
    have k0 := keepC hSw r0; have k1 := keepC hSw r1; have k2 := keepC hSw r2; have k3 := keepC hSw r3; have k4 := keepC hSw r4; have k5 := keepC hSw r5; have k6 := keepC hSw r6; have k7 := keepC hSw r7
    have kt := keepC hSw rt
    have kg := keepC hSw rg
    go_simp
  clear e0
  subst e
  (try simp only [Act.put, List.setIfInBounds_toArray, List.set_cons_zero, List.set_cons_succ])
  obtain ⟨o, e0⟩ : ∃ o, o = opN ops117_3 2 := ⟨_, rfl⟩
  have e := e0
  conv at e => rhs; whnf
  refine wpAnyH_take (i := 2) (oi := o) (v := ptr g) (by rw [e0]; kernel_rfl) (by kernel_rfl) (by kernel_rfl) (by kernel_rfl) (fun _ _ _ h => h) (Or.inl ⟨by rw [e]; rfl, ?_⟩) (by assumption) ?_
  · clear e0
    subst e
    intro w hSw
    have hSw : Below V.heap.size V w := hSw
    have k0 := keepC hSw r0; have k1 := keepC hSw r1; have k2 := keepC hSw r2; have k3 := keepC hSw r3; have k4 := keepC hSw r4; have k5 := keepC hSw r5; have k6 := keepC hSw r6; have k7 := keepC hSw r7
    have kt := keepC hSw rt
    have kg := keepC hSw rg
    go_simp
  clear e0
  subst e
  (try simp only [Act.put, List.setIfInBounds_toArray, List.set_cons_zero, List.set_cons_succ])
  obtain ⟨o, e0⟩ : ∃ o, o = opN ops117_3 3 := ⟨_, rfl⟩
  have e := e0
  conv at e => rhs; whnf
  refine wpAnyH_take (i := 3) (oi := o) (v := ptr g) (by rw [e0]; kernel_rfl) (by kernel_rfl) (by kernel_rfl) (by kernel_rfl) (fun _ _ _ h => h) (Or.inl ⟨by rw [e]; rfl, ?_⟩) (by assumption) ?_
  · clear e0
    subst e
    intro w hSw
    have hSw : Below V.heap.size V w := hSw
    have k0 := keepC hSw r0; have k1 := keepC hSw r1; have k2 := keepC hSw r2; have k3 := keepC hSw r3; have k4 := keepC hSw r4; have k5 := keepC hSw r5; have k6 := keepC hSw r6; have k7 := keepC hSw r7
    have kt := keepC hSw rt
    have kg := keepC hSw rg
    go_simp
  clear e0
  subst e
  (try simp only [Act.put, List.setIfInBounds_toArray, List.set_cons_zero, List.set_cons_succ])
  obtain ⟨o, e0⟩ : ∃ o, o = opN ops117_3 4 := ⟨_, rfl⟩
  have e := e0
  conv at e => rhs; whnf
  refine wpAnyH_take (i := 4) (oi := o) (v := .pointer (some ⟨g, 0, none⟩)) (by rw [e0]; kernel_rfl) (by kernel_rfl) (by kernel_rfl) (by kernel_rfl) (fun _ _ _ h => h) (Or.inl ⟨by rw [e]; rfl, ?_⟩) (by assumption) ?_
  · clear e0
    subst e
    intro w hSw
    have hSw : Below V.heap.size V w := hSw
    have k0 := keepC hSw r0; have k1 := keepC hSw r1; have k2 := keepC hSw r2; have k3 := keepC hSw r3; have k4 := keepC hSw r4; have k5 := keepC hSw r5; have k6 := keepC hSw r6; have k7 := keepC hSw r7
    have kt := keepC hSw rt
    have kg := keepC hSw rg
    go_simp
  clear e0
  subst e
  (try simp only [Act.put, List.setIfInBounds_toArray, List.set_cons_zero, List.set_cons_succ])
  obtain ⟨o, e0⟩ : ∃ o, o = opN ops117_3 5 := ⟨_, rfl⟩
  have e := e0
  conv at e => rhs; whnf
  refine wpAnyH_take (i := 5) (oi := o) (v := .pointer (some ⟨g, 0, none⟩)) (by rw [e0]; kernel_rfl) (by kernel_rfl) (by kernel_rfl) (by kernel_rfl) (fun _ _ _ h => h) (Or.inl ⟨by rw [e]; rfl, ?_⟩) (by assumption) ?_
  · clear e0
    subst e
    intro w hSw
    have hSw : Below V.heap.size V w := hSw
    have k0 := keepC hSw r0; have k1 := keepC hSw r1; have k2 := keepC hSw r2; have k3 := keepC hSw r3; have k4 := keepC hSw r4; have k5 := keepC hSw r5; have k6 := keepC hSw r6; have k7 := keepC hSw r7
    have kt := keepC hSw rt
    have kg := keepC hSw rg
    go_simp
  clear e0
  subst e
  (try simp only [Act.put, List.setIfInBounds_toArray, List.set_cons_zero, List.set_cons_succ])
  obtain ⟨o, e0⟩ : ∃ o, o = opN ops117_3 6 := ⟨_, rfl⟩
  have e := e0
  conv at e => rhs; whnf
  refine wpAnyH_take (i := 6) (oi := o) (v := .slice A n cap) (by rw [e0]; kernel_rfl) (by kernel_rfl) (by kernel_rfl) (by kernel_rfl) (fun _ _ _ h => h) (Or.inl ⟨by rw [e]; rfl, ?_⟩) (by assumption) ?_
  · clear e0
    subst e
    intro w hSw
    have hSw : Below V.heap.size V w := hSw
    have k0 := keepC hSw r0; have k1 := keepC hSw r1; have k2 := keepC hSw r2; have k3 := keepC hSw r3; have k4 := keepC hSw r4; have k5 := keepC hSw r5; have k6 := keepC hSw r6; have k7 := keepC hSw r7
    have kt := keepC hSw rt
    have kg := keepC hSw rg
    go_simp
  clear e0
  subst e
  (try simp only [Act.put, List.setIfInBounds_toArray, List.set_cons_zero, List.set_cons_succ])
  obtain ⟨o, e0⟩ : ∃ o, o = opN ops117_3 7 := ⟨_, rfl⟩
  have e := e0
  conv at e => rhs; whnf
  refine wpAnyH_take (i := 7) (oi := o) (v := .int .i64 n) (by rw [e0]; kernel_rfl) (by kernel_rfl) (by kernel_rfl) (by kernel_rfl) (fun _ _ _ h => h) (Or.inl ⟨by rw [e]; rfl, ?_⟩) (by assumption) ?_
  · clear e0
    subst e
    intro w hSw
    have hSw : Below V.heap.size V w := hSw
    have k0 := keepC hSw r0; have k1 := keepC hSw r1; have k2 := keepC hSw r2; have k3 := keepC hSw r3; have k4 := keepC hSw r4; have k5 := keepC hSw r5; have k6 := keepC hSw r6; have k7 := keepC hSw r7
    have kt := keepC hSw rt
    have kg := keepC hSw rg
    go_simp
  clear e0
  subst e
  (try simp only [Act.put, List.setIfInBounds_toArray, List.set_cons_zero, List.set_cons_succ])
  exact st117_a hbk hQ hHeld
end Go.Proofs.Ytojgdallodmanaa

namespace Go.Proofs.Ytojgdallodmanaa
open Go.RowKit Go.Shelf
attribute [local go_sem] Oper.semAt_some

section
variable {w : World} {B g : Nat} {h : Hul} {A : Option Addr} {cap : Nat} {J : Option Addr} {capJ : Nat} {N : List Nd} {bs : List Nat} {br km : Nat}
def HeavyPost (v : Bool) (km : Nat) (f : Nat → Int) (w : World) (e : Ending) (w' : World) : Prop := e = .returned (.bool v) ∧ OnlyAt w w' km ∧ KnownAt w' km f
set_option maxRecDepth 100000 in
set_option maxHeartbeats 4000000 in
theorem heavy_any (H : DeckSt w B g h A cap J capJ N bs br km) (hT : TreeOk h.ps N) (hK : KnownAt w km (mostV h N)) (set tb wb : Nat) (wt : Int) (hs : set < 256) (ht : w.cell? ⟨tb, 0, none⟩ = some (ptr g)) (hw : w.cell? ⟨wb, 0, none⟩ = some (iv wt)) (htk : tb ≠ km) (hwk : wb ≠ km) :
    Calls Try.prog 128 #[.int .i64 set, ptr tb, ptr wb] w (HeavyPost (decide (wt < mostV h N set)) km (mostV h N) w) := by
  have hd : OnlyAt w w.drew km := (OnlyAt.refl w km).drew
  have hm := most_any (H.only hd (.inl rfl)) hT hK.drew set hs
  have HM := Lib.hid hm
  have HC : Hid (∀ W, OnlyAt w W km → W.cell? ⟨tb, 0, none⟩ = some (ptr g) ∧ W.cell? ⟨wb, 0, none⟩ = some (iv wt)) := Lib.hid fun W ho => ⟨ho.cell ht htk, ho.cell hw hwk⟩
  have HD := Lib.hid hd
  obtain ⟨M, hM⟩ : ∃ M, mostV h N set = M := ⟨_, rfl⟩
  rw [hM] at HM ⊢
  clear hm hM
  obtain ⟨F, hF⟩ : ∃ F, mostV h N = F := ⟨_, rfl⟩
  rw [hF] at HM ⊢
  clear hF H hK hT
  go_enter Try.func128, Try.ntmps128
  go_wp2
  go_region_held3 (fun W => W.cell? ⟨tb, 0, none⟩ = some (ptr g) ∧ W.cell? ⟨wb, 0, none⟩ = some (iv wt)) (first | exact HC.out w.drew HD.out | exact HC.out w1 ho) (((go_at_call 65; refine HM.out.mono ?_; rintro e w1 ⟨rfl, ho1, hk1⟩; have ho : OnlyAt w w1 km := HD.out.trans ho1)))
  go_wp2
  go_ret
  exact ⟨rfl, ho, hk1⟩
end

/-- No block of the cut can be heavier than wt. -/
def fitsCut (h : Hul) (N : List Nd) (wt : Int) (C : List Nat) : Bool := !anyTo (fun s => decide (wt < mostV h N s)) (blkTo C h.ps.length) (manyTo C h.ps.length)
def canF (h : Hul) (N : List Nd) (b : Nat) (wt : Int) : Bool := (cutsL h.js h.ps.length b).any (fitsCut h N wt)

/-- What stands in memory while the cuts are gone through. -/
structure CanI (W0 : World) (f4 km : Nat) (f : Nat → Int) (v : Bool) (W : World) : Prop where
  os : W.os = W0.os
  tape : W.tape = W0.tape
  out : W.output = W0.output
  keep : KeepM (fun k => k = km ∨ k = f4) W0 W
  kn : KnownAt W km f
  b4 : Blk W f4 4 #[.bool v]
theorem CanI.below {W0 W W' : World} {f4 km : Nat} {f : Nat → Int} {v : Bool} (h : CanI W0 f4 km f v W) (hb : Below W0.heap.size W W') (h4 : f4 < W0.heap.size) (hk : km < W0.heap.size) : CanI W0 f4 km f v W' :=
  ⟨hb.os.trans h.os, hb.tape.trans h.tape, hb.output.trans h.out, ⟨Nat.le_trans h.keep.size hb.size, fun k hm hlt => (hb.block k hlt).trans (h.keep.same k hm hlt)⟩, h.kn.same (hb.block _ hk), h.b4.same (hb.block _ h4)⟩
theorem CanI.only {W0 W W' : World} {f4 km : Nat} {f : Nat → Int} {v : Bool} (h : CanI W0 f4 km f v W) (ho : OnlyAt W W' km) (hk : KnownAt W' km f) (h4 : f4 ≠ km) : CanI W0 f4 km f v W' :=
  ⟨ho.os.trans h.os, ho.tape.trans h.tape, ho.output.trans h.out, h.keep.trans ⟨ho.size, fun k hk hlt => ho.block k hlt (fun e => hk (.inl e))⟩, hk, h.b4.same (ho.block _ h.b4.lt h4)⟩

theorem CanI.fin {w W0 W : World} {f4 km : Nat} {f : Nat → Int} {v : Bool} (h : CanI W0 f4 km f v W) (hb : Below w.heap.size w W0) (h4 : w.heap.size ≤ f4) (h4' : f4 < W0.heap.size) (hk : km < w.heap.size) (o : Obj) :
    OnlyAt w (W.putObj W0.heap.size o) km ∧ KnownAt (W.putObj W0.heap.size o) km f ∧ (W.putObj W0.heap.size o).cell? ⟨f4, 0, none⟩ = some (.bool v) := by
  have hz := hb.size
  have hp : ∀ k, k < W0.heap.size → (W.putObj W0.heap.size o).heap[k]? = W.heap[k]? := fun k hk => World.putObj_heap_other (by omega)
  refine ⟨⟨h.os.trans hb.os, h.tape.trans hb.tape, h.out.trans hb.output, by have := h.keep.size; simp [World.putObj]; omega, fun k hk hne => (hp k (by omega)).trans ((h.keep.same k (by omega) (by omega)).trans (hb.block k hk))⟩, h.kn.same (hp km (by omega)), ?_⟩
  have hb4 : Blk (W.putObj W0.heap.size o) f4 4 #[.bool v] := h.b4.same (hp f4 h4')
  exact hb4.cell 0

set_option maxRecDepth 100000 in
set_option maxHeartbeats 8000000 in
theorem can_any {w : World} {BD g : Nat} {h : Hul} {A : Option Addr} {cap : Nat} {J : Option Addr} {capJ : Nat} {N : List Nd} {bs : List Nat} {br km : Nat} (H : DeckSt w BD g h A cap J capJ N bs br km) (hk : HulOk h) (hT : TreeOk h.ps N) (hK : KnownAt w km (mostV h N)) (b : Nat) (wt : Int) (hb8 : b ≤ 8) :
    Calls Try.prog 117 #[.agg #[ptr g, .int .i64 b], .int .i64 wt] w (HeavyPost (canF h N b wt) km (mostV h N) w) := by
  have hn8 := hk.n8
  obtain ⟨n, hn⟩ : ∃ n, h.ps.length = n := ⟨_, rfl⟩
  have hkm := hK.lt
  have hgS : g < w.heap.size := Nat.lt_of_lt_of_le H.gB H.hB
  obtain ⟨s0, hs0⟩ : ∃ s, w.heap.size = s := ⟨_, rfl⟩
  obtain ⟨W3, hW3⟩ : ∃ W3, ((w.alloc (.cells #[ptr g, nv b] 160)).alloc (.cells #[iv wt] 3)).alloc (.cells #[.bool false] 4) = W3 := ⟨_, rfl⟩
  have hz3 : W3.heap.size = s0 + 3 := by rw [← hW3, ← hs0]; simp
  have hb3 : Below w.heap.size w W3 := by rw [← hW3]; exact belowA (belowA (belowA (belowR _) _) _) _
  have b2 : Blk W3 s0 160 #[ptr g, nv b] := by rw [← hW3, ← hs0]; exact ((Blk.new w 160 _).alloc _).alloc _
  have b3 : Blk W3 (s0 + 1) 3 #[iv wt] := by
    rw [← hW3, ← hs0]
    have := (Blk.new (w.alloc (.cells #[ptr g, nv b] 160)) 3 #[iv wt]).alloc (.cells #[.bool false] 4)
    rwa [World.size_alloc] at this
  have b4 : Blk W3 (s0 + 2) 4 #[.bool false] := by
    rw [← hW3, ← hs0]
    have := Blk.new ((w.alloc (.cells #[ptr g, nv b] 160)).alloc (.cells #[iv wt] 3)) 4 #[.bool false]
    rwa [World.size_alloc, World.size_alloc] at this
  obtain ⟨f3, hf3⟩ : ∃ f, s0 + 1 = f := ⟨_, rfl⟩
  obtain ⟨f4, hf4⟩ : ∃ f, f3 + 1 = f := ⟨_, rfl⟩
  have e4 : s0 + 2 = f4 := by omega
  rw [hf3] at b3
  rw [e4] at b4
  have hcu := cuts_any g A n cap b W3 (by rw [← hn]; exact keepC hb3 H.c0)
  obtain ⟨W0, hW0⟩ : ∃ W0, ((W3.alloc (.cells #[ptr g] 99)).alloc (.cells #[nv b] 3)).alloc (.cells #[nv n] 3) = W0 := ⟨_, rfl⟩
  obtain ⟨db, hdb⟩ : ∃ d, W3.heap.size = d := ⟨_, rfl⟩
  have hz0 : W0.heap.size = db + 3 := by rw [← hW0, ← hdb]; simp
  have hb0 : Below W3.heap.size W3 W0 := by rw [← hW0]; exact belowA (belowA (belowA (belowR _) _) _) _
  have d1 : Blk W0 db 99 #[ptr g] := by rw [← hW0, ← hdb]; exact ((Blk.new W3 99 _).alloc _).alloc _
  have d2 : Blk W0 (db + 1) 3 #[nv b] := by
    rw [← hW0, ← hdb]
    have := (Blk.new (W3.alloc (.cells #[ptr g] 99)) 3 #[nv b]).alloc (.cells #[nv n] 3)
    rwa [World.size_alloc] at this
  have d3 : Blk W0 (db + 2) 3 #[nv n] := by
    rw [← hW0, ← hdb]
    have := Blk.new ((W3.alloc (.cells #[ptr g] 99)).alloc (.cells #[nv b] 3)) 3 #[nv n]
    rwa [World.size_alloc, World.size_alloc] at this
  have hbw : Below w.heap.size w W0 := belowT hb3 hb0
  have hds := H.below hbw
  have hkn := hK.below hbw
  have b2' := b2.same (hb0.block _ b2.lt)
  have b3' := b3.same (hb0.block _ b3.lt)
  have b4' := b4.same (hb0.block _ b4.lt)
  have hBD := H.hB
  obtain ⟨B0, hB0a, hB0b, rp, rj⟩ := hds.rd
  have r2 : W3.cell? ⟨s0, 0, none⟩ = some (ptr g) := b2.cell 0
  have r2b : W3.cell? ⟨s0, 1, none⟩ = some (nv b) := b2.cell 1
  have HI0 : Hid (CanI W0 f4 km (mostV h N) false W0) := Lib.hid ⟨rfl, rfl, rfl, KeepM.refl _ _, hkn, b4'⟩
  have HCU := Lib.hid hcu
  have HLOOP : Hid (Blk W0 (db + 2) 3 #[nv n] ∧ Blk W0 db 99 #[ptr g] ∧ Blk W0 (db + 1) 3 #[nv b] ∧ W0.cell? ⟨g, 1, none⟩ = some (.slice J h.js.length capJ) ∧ RdN 2 encSp W0 B0 J h.js) := Lib.hid ⟨d3, d1, d2, hds.c1, rj⟩
  have HDS := Lib.hid hds
  have HBW := Lib.hid hbw
  have HB2 : Hid (Blk W0 s0 160 #[ptr g, nv b] ∧ Blk W0 f3 3 #[iv wt]) := Lib.hid ⟨b2', b3'⟩
  have hgk := H.gk
  have hz0' : db + 3 ≤ W0.heap.size := by omega
  have hord : km < s0 ∧ g < s0 ∧ s0 < f3 ∧ f3 < f4 ∧ f4 < db ∧ BD ≤ s0 ∧ w.heap.size ≤ s0 := by omega
  rw [hdb] at HCU
  have HORD := Lib.hid hord
  have HN := Lib.hid hn
  clear hcu b2 b3 b4 hb3 hz3 hb0 d1 d2 d3 hbw hds hkn b2' b3' b4' rj rp e4 hz0 H hK hord
  refine (callsIn_wide (n := 0)).1 ?_
  refine callsIn_of_wp_marks Try.func117 rfl trivial ?_ rfl
  simp only [Try.ntmps117, List.size_toArray, List.length_cons, List.length_nil, Nat.reduceAdd, Nat.reduceSub, Array.replicate_succ, Array.replicate_zero, List.push_toArray, List.append_toArray, List.nil_append, List.cons_append]
  gi_wp2_with fail
  refine ⟨trivial, rfl, (callsIn_wide.2 HCU.out).mono ?_⟩
  rintro e w5 ⟨rfl, rfl⟩
  rw [hW0]
  clear hW3 hW0 HCU r2 r2b hdb
  gi_wp2_with fail
  obtain ⟨o1, o2, o3, o4, o5, o6, o7⟩ := HORD.out
  have hnn8 : n ≤ 8 := by omega
  have hn1 := hk.n1
  refine rangeFunc_cuts 0 (fun k => k = km ∨ k = f4) (db + 2) db (db + 1) g n b B0 capJ J h.js rfl HLOOP.out.1 HLOOP.out.2.1 HLOOP.out.2.2.1 HLOOP.out.2.2.2.1 HLOOP.out.2.2.2.2 (by omega) (fun k hk => by omega) (by omega) (by omega) (by omega) (by omega) (fun k hk => by omega) (by omega) hnn8 hb8 (by rw [← hn]; exact hk.js) hk.j12
    (fun pre W => CanI W0 f4 km (mostV h N) false W ∧ ∀ C ∈ pre, fitsCut h N wt C = false) (fun pre W => CanI W0 f4 km (mostV h N) true W ∧ ∃ C ∈ pre, fitsCut h N wt C = true) ?_ ?_ ⟨HI0.out, by simp⟩ ?_ ?_ ?_
  · exact fun s X Y hX hb => ⟨hX.1.below hb (by omega) (by omega), hX.2⟩
  · exact fun s X Y hX hb => ⟨hX.1.below hb (by omega) (by omega), hX.2⟩
  · intro m l2 pre C W hI hpre hsz
    obtain ⟨hcl, hc8⟩ := cutsL_mem hb8 hnn8 C (hpre.subset (List.mem_append_right pre (List.mem_singleton.2 rfl)))
    obtain ⟨c0, c1, c2, c3, c4, c5, c6, c7, hce⟩ := eight hcl
    have hcv2 : cutV C = .agg #[nv c0, nv c1, nv c2, nv c3, nv c4, nv c5, nv c6, nv c7] := by rw [hce]; rfl
    rw [hcv2]
    gi_wp2
    refine ⟨belowA (belowR _) _, ?_⟩
    intro W2 hI2 hg2 hs2
    obtain ⟨hI2, hno⟩ := hI2
    obtain ⟨f11, hf11⟩ : ∃ f, W.heap.size = f := ⟨_, rfl⟩
    have b11 : Blk W2 f11 123 (C.map nv).toArray := by
      rw [← hf11, hce]
      exact (Blk.new W 123 #[nv c0, nv c1, nv c2, nv c3, nv c4, nv c5, nv c6, nv c7]).grown hg2 (fun e => by injection e with e; omega)
    have hf11' : W0.heap.size + 2 < f11 := by omega
    rw [hf11]
    have nM : ∀ k, k < W0.heap.size → k ≠ km → k ≠ f4 → W2.heap[k]? = W0.heap[k]? := fun k hk h1 h2 => hI2.keep.same k (by omega) hk
    have b2 := HB2.out.1.same (nM s0 (by omega) (by omega) (by omega))
    have b3 := HB2.out.2.same (nM f3 (by omega) (by omega) (by omega))
    have hds := HDS.out.keepM hI2.keep.size (fun k hk hne => nM k (by omega) hne (by omega))
    have hblk := fun W => blocks_any C n W hcl hc8 hnn8
    obtain ⟨S, hS⟩ : ∃ S, blkTo C n = S := ⟨_, rfl⟩
    obtain ⟨K, hK⟩ : ∃ K, manyTo C n = K := ⟨_, rfl⟩
    have hSl : S.length = 8 := by rw [← hS]; exact blkTo_len _ _
    have hS256 : ∀ x ∈ S, x < 256 := by rw [← hS]; exact blkTo_lt _ _ hnn8
    have hK8 : K ≤ 8 := by rw [← hK]; exact manyTo_le hc8 _
    have hft : fitsCut h N wt C = !anyTo (fun s => decide (wt < mostV h N s)) S K := by unfold fitsCut; rw [hn, hS, hK]
    obtain ⟨s0', s1, s2, s3, s4, s5, s6, s7, hse⟩ := eight hSl
    have hsv : cutV S = .agg #[nv s0', nv s1, nv s2, nv s3, nv s4, nv s5, nv s6, nv s7] := by rw [hse]; rfl
    unfold BlocksPost at hblk
    rw [hcv2, hS, hK, hsv] at hblk
    have hcl2 : ∀ i x, C[i]? = some x → W2.cell? ⟨f11, i, none⟩ = some (nv x) := fun i x hx => b11.nat hx
    rw [hce] at hcl2
    have rg : W2.cell? ⟨g, 0, none⟩ = some (.slice A n cap) := by have := hds.c0; rw [hn] at this; exact this
    have rt : W2.cell? ⟨s0, 0, none⟩ = some (ptr g) := b2.cell 0
    have HBLK := Lib.hid hblk
    have HCL2 := Lib.hid hcl2
    have HRG := Lib.hid rg
    have HRT := Lib.hid rt
    have HI2 := Lib.hid hI2
    have HNO := Lib.hid hno
    have HFT := Lib.hid hft
    have HSE := Lib.hid hse
    have HDS2 := Lib.hid hds
    have B3 := Lib.hid b3
    have B2 := Lib.hid b2
    have hz20 := hI2.keep.size
    clear hblk hI2 hno hft hse hds b2 b3 b11 hS hK hsv hcv2 hce hcl2 nM hI hg2 hs2 hf11 hpre hsz rg rt W
    gi_wp2_with fail
    refine reg117_3 (HCL2.out 0 _ rfl) (HCL2.out 1 _ rfl) (HCL2.out 2 _ rfl) (HCL2.out 3 _ rfl) (HCL2.out 4 _ rfl) (HCL2.out 5 _ rfl) (HCL2.out 6 _ rfl) (HCL2.out 7 _ rfl) HRT.out HRG.out HBLK.out ?_
    intro gg u14 u15 u16 u17 u18 u19 u20 u21 u22 u23 u24 u25 wx hgg hgl hbx hblk
    have hI4 := HI2.out.below (hbx.mono hz20) (by omega) (by omega)
    have hds4 := HDS2.out.below hbx
    have b2x := B2.out.same (hbx.block _ B2.out.lt)
    have b3x := B3.out.same (hbx.block _ B3.out.lt)
    have hblk' : Blk wx gg 122 (S.map nv).toArray := by rw [HSE.out]; exact hblk
    have hkx := hI4.kn.lt
    have hsl := fun W => slice122 W gg K hK8
    have hzx := hbx.size
    have hco := contains128_any (ptr s0) (ptr f3) (fun s => decide (wt < mostV h N s)) (fun X => OnlyAt wx X km ∧ KnownAt X km (mostV h N)) gg K S wx (by omega) (by omega) ⟨OnlyAt.refl wx km, hI4.kn⟩
      (fun W hW i x hx => hW.1.cell (hblk'.nat hx) (by omega))
      (fun W x hW hx => (heavy_any (hds4.only hW.1 (.inl rfl)) hT hW.2 x s0 f3 wt (hS256 x hx) (hW.1.cell (b2x.cell 0) (by omega)) (hW.1.cell (b3x.cell 0) (by omega)) (by omega) (by omega)).mono (fun e w' hp => ⟨hp.1, hW.1.trans hp.2.1, hp.2.2⟩))
    obtain ⟨q, hq⟩ : ∃ q, anyTo (fun s => decide (wt < mostV h N s)) S K = q := ⟨_, rfl⟩
    rw [hq] at hco
    have HFQ : Hid (fitsCut h N wt C = !q) := Lib.hid (by rw [HFT.out, hq])
    have HCO := Lib.hid hco
    have HI4 := Lib.hid hI4
    have HBX := Lib.hid hbx
    clear hco hI4 hq hds4 b2x b3x hblk hblk' hbx HBLK HCL2 HRG HRT HDS2 HFT HSE
    gi_wp2_with fail
    refine ⟨trivial, hdd _, (CallsIn.inRound l2 (callsIn_wide.2 HCO.out)).mono ?_⟩
    rintro e w7 ⟨rfl, ho7, hk7⟩
    have HI7 : Hid (CanI W0 f4 km (mostV h N) false w7) := Lib.hid (HI4.out.only ho7 hk7 (by omega))
    have HK7 : Hid (KeepM (fun k => k = km ∨ k = f4) W2 w7) := Lib.hid ((KeepM.of_below HBX.out).trans (KeepM.of_only ho7 (.inl rfl)))
    have r4 := HI7.out.b4.cell 0
    have x4 := HI7.out.b4.frozen 0
    clear ho7 hk7 HCO hsl
    cases q
    · gi_wp2_with fail
      exact ⟨HK7.out.trans (KeepM.set_ _ _ (.inr rfl)), ⟨HI7.out.os, HI7.out.tape, HI7.out.out, HI7.out.keep.trans (KeepM.set_ _ _ (.inr rfl)), HI7.out.kn.same (Below.heap_setCell _ _ _ _ (by simp only; omega)), by have := HI7.out.b4.set_ 0 (.bool true); simpa using this⟩, C, by simp, HFQ.out⟩
    · gi_wp2_with fail
      exact ⟨HK7.out, HI7.out, fun D hD => (List.mem_append.1 hD).elim (fun h => HNO.out D h) (fun h => by rw [List.mem_singleton.1 h]; exact HFQ.out)⟩
  · intro W hI hsz hD
    obtain ⟨hI, hall⟩ := hI
    have hres : canF h N b wt = false := by unfold canF; rw [HN.out, List.any_eq_false]; intro C hC; simp [hall C hC]
    have HRES := Lib.hid hres
    have y4 : W.cell? ⟨f4, 0, none⟩ = some (.bool false) := hI.b4.cell 0
    have x4 := hI.b4.frozen 0
    have HI := Lib.hid hI
    have HD := Lib.hid hD
    have hz0 := hI.keep.size
    clear hI hD hres hall HI0 HLOOP HDS HB2
    gi_wp2_with fail
    have HX : Hid (CanI W0 f4 km (mostV h N) false (W.setCell ⟨f4, 0, none⟩ (.bool false))) := Lib.hid ⟨HI.out.os, HI.out.tape, HI.out.out, HI.out.keep.trans (KeepM.set_ _ _ (.inr rfl)), HI.out.kn.same (Below.heap_setCell _ _ _ _ (by simp only; omega)), by have := HI.out.b4.set_ 0 (.bool false); simpa using this⟩
    have HD2 : Hid ((W.setCell ⟨f4, 0, none⟩ (.bool false)).heap[W0.heap.size]? = some (.deferred (some []))) := Lib.hid ((Below.heap_setCell _ _ _ _ (by simp only; omega)).trans HD.out)
    refine ⟨by simp, .inl ⟨_, _, rfl, run_takeDeferred HD2.out, ?_⟩⟩
    obtain ⟨z1, z2, z3⟩ := HX.out.fin HBW.out (by omega) (by omega) (by omega) (.deferred none)
    exact ⟨.bool false, by simp [results, Try.results117, go_sem, z3], by rw [HRES.out], z1, z2⟩
  · intro pre W hpre hI hsz hD
    obtain ⟨hI, C, hC, hfc⟩ := hI
    have hres : canF h N b wt = true := by unfold canF; rw [HN.out, List.any_eq_true]; exact ⟨C, hpre.subset hC, hfc⟩
    have HRES := Lib.hid hres
    have y4 : W.cell? ⟨f4, 0, none⟩ = some (.bool true) := hI.b4.cell 0
    have HI := Lib.hid hI
    have HD := Lib.hid hD
    have hz0 := hI.keep.size
    clear hI hD hres hfc HI0 HLOOP HDS HB2
    gi_wp2_with fail
    refine ⟨by simp, .inl ⟨_, _, rfl, run_takeDeferred HD.out, ?_⟩⟩
    obtain ⟨z1, z2, z3⟩ := HI.out.fin HBW.out (by omega) (by omega) (by omega) (.deferred none)
    exact ⟨.bool true, by simp [results, Try.results117, go_sem, z3], by rw [HRES.out], z1, z2⟩
end Go.Proofs.Ytojgdallodmanaa
