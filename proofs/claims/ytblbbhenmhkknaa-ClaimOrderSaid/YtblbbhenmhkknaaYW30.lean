/- The closures of claim.Ranges. -/
import Derived.Laws.EntriesVeiled
import Derived.Test.YtblbbhenmhkknaaZ4f974a
namespace Go.Proofs.Ytblbbhenmhkknaa
open Go.RowKit

abbrev fv (n : Nat) : Value := .func (.func n) #[] #[]
/-- The cents of a claim that is least, where all others are greatest; and the other way round. -/
def dLo (L : List Cl3) (at_ i : Nat) : Int := match L[i]? with | some c => if i = at_ then c.lo else c.hi | none => 0
def dHi (L : List Cl3) (at_ i : Nat) : Int := match L[i]? with | some c => if i = at_ then c.hi else c.lo | none => 0

set_option maxRecDepth 100000 in
theorem pick_lo (i at_ : Nat) (r lo hi : Int) (g5 g7 g8 : Nat) (w : World) (h5 : w.cell? ⟨g5, 0, none⟩ = some (.int .i64 at_)) (h7 : w.cell? ⟨g7, 0, none⟩ = some (fv 83)) (h8 : w.cell? ⟨g8, 0, none⟩ = some (fv 84)) :
    Calls Try.prog 82 #[.int .i64 i, .agg #[.int .i64 r, .int .i64 lo, .int .i64 hi], .pointer (some ⟨g5, 0, none⟩), .pointer (some ⟨g7, 0, none⟩), .pointer (some ⟨g8, 0, none⟩)] w fun e w' => e = .returned (.int .i64 (if i = at_ then lo else hi)) ∧ Below w.heap.size w w' := by
  have k5 := fun ob => keepA h5 ob
  have k7 := fun ob => keepA h7 ob
  have k8 := fun ob => keepA h8 ob
  clear h5 h7 h8
  by_cases h : i = at_
  · subst h
    go_enter Try.func82, Try.ntmps82
    go_wp2_with fail
    refine (least1_any r lo hi _).mono ?_
    rintro e w1 ⟨rfl, hb⟩
    go_wp2
    go_ret
    exact ⟨by simp, belowT (belowA (belowR _) _) hb⟩
  · have hne : ((i : Int) == (at_ : Int)) = false := beq_eq_false_iff_ne.2 (by omega)
    rw [if_neg h]
    clear h
    go_enter Try.func82, Try.ntmps82
    go_wp2_with fail
    refine (most1_any r lo hi _).mono ?_
    rintro e w1 ⟨rfl, hb⟩
    go_wp2
    go_ret
    exact ⟨rfl, belowT (belowA (belowR _) _) hb⟩
set_option maxRecDepth 100000 in
theorem pick_hi (i at_ : Nat) (r lo hi : Int) (g5 g7 g8 : Nat) (w : World) (h5 : w.cell? ⟨g5, 0, none⟩ = some (.int .i64 at_)) (h7 : w.cell? ⟨g7, 0, none⟩ = some (fv 84)) (h8 : w.cell? ⟨g8, 0, none⟩ = some (fv 83)) :
    Calls Try.prog 82 #[.int .i64 i, .agg #[.int .i64 r, .int .i64 lo, .int .i64 hi], .pointer (some ⟨g5, 0, none⟩), .pointer (some ⟨g7, 0, none⟩), .pointer (some ⟨g8, 0, none⟩)] w fun e w' => e = .returned (.int .i64 (if i = at_ then hi else lo)) ∧ Below w.heap.size w w' := by
  have k5 := fun ob => keepA h5 ob
  have k7 := fun ob => keepA h7 ob
  have k8 := fun ob => keepA h8 ob
  clear h5 h7 h8
  by_cases h : i = at_
  · subst h
    go_enter Try.func82, Try.ntmps82
    go_wp2_with fail
    refine (most1_any r lo hi _).mono ?_
    rintro e w1 ⟨rfl, hb⟩
    go_wp2
    go_ret
    exact ⟨by simp, belowT (belowA (belowR _) _) hb⟩
  · have hne : ((i : Int) == (at_ : Int)) = false := beq_eq_false_iff_ne.2 (by omega)
    rw [if_neg h]
    clear h
    go_enter Try.func82, Try.ntmps82
    go_wp2_with fail
    refine (least1_any r lo hi _).mono ?_
    rintro e w1 ⟨rfl, hb⟩
    go_wp2
    go_ret
    exact ⟨rfl, belowT (belowA (belowR _) _) hb⟩

theorem just_lo (lo hi : Int) (A A3 : Option Addr) (n cap cap3 : Nat) (L : List Cl3) (B at_ g5 g7 g8 : Nat) (w : World) (h0 : 0 < L.length) (hm : L.length ≤ 1000) (hR : RdN 3 encC3 w B A3 L) (hB : B ≤ w.heap.size)
    (h5 : w.cell? ⟨g5, 0, none⟩ = some (.int .i64 at_)) (h7 : w.cell? ⟨g7, 0, none⟩ = some (fv 83)) (h8 : w.cell? ⟨g8, 0, none⟩ = some (fv 84)) :
    Calls Try.prog 81 #[.agg #[.int .i64 lo, .int .i64 hi, .slice A n cap, .slice A3 L.length cap3], .func (.func 82) #[] #[.pointer (some ⟨g5, 0, none⟩), .pointer (some ⟨g7, 0, none⟩), .pointer (some ⟨g8, 0, none⟩)]] w (JustPost L (dLo L at_) w) := by
  refine just_any lo hi A A3 n cap cap3 L B 82 #[.pointer (some ⟨g5, 0, none⟩), .pointer (some ⟨g7, 0, none⟩), .pointer (some ⟨g8, 0, none⟩)] (dLo L at_) w (.inl rfl) h0 hm hR hB ?_
  intro i c w1 hi hb
  have h := pick_lo i at_ c.rank c.lo c.hi g5 g7 g8 w1 (keepC hb h5) (keepC hb h7) (keepC hb h8)
  have e : (#[Value.int .i64 i, Value.agg #[.int .i64 c.rank, .int .i64 c.lo, .int .i64 c.hi]] ++ #[Value.pointer (some ⟨g5, 0, none⟩), Value.pointer (some ⟨g7, 0, none⟩), Value.pointer (some ⟨g8, 0, none⟩)] : Array Value) = #[Value.int .i64 i, Value.agg #[.int .i64 c.rank, .int .i64 c.lo, .int .i64 c.hi], Value.pointer (some ⟨g5, 0, none⟩), Value.pointer (some ⟨g7, 0, none⟩), Value.pointer (some ⟨g8, 0, none⟩)] := rfl
  have hd : dLo L at_ i = if i = at_ then c.lo else c.hi := by simp [dLo, hi]
  rw [e, hd]
  exact h
theorem just_hi (lo hi : Int) (A A3 : Option Addr) (n cap cap3 : Nat) (L : List Cl3) (B at_ g5 g7 g8 : Nat) (w : World) (h0 : 0 < L.length) (hm : L.length ≤ 1000) (hR : RdN 3 encC3 w B A3 L) (hB : B ≤ w.heap.size)
    (h5 : w.cell? ⟨g5, 0, none⟩ = some (.int .i64 at_)) (h7 : w.cell? ⟨g7, 0, none⟩ = some (fv 84)) (h8 : w.cell? ⟨g8, 0, none⟩ = some (fv 83)) :
    Calls Try.prog 81 #[.agg #[.int .i64 lo, .int .i64 hi, .slice A n cap, .slice A3 L.length cap3], .func (.func 82) #[] #[.pointer (some ⟨g5, 0, none⟩), .pointer (some ⟨g7, 0, none⟩), .pointer (some ⟨g8, 0, none⟩)]] w (JustPost L (dHi L at_) w) := by
  refine just_any lo hi A A3 n cap cap3 L B 82 #[.pointer (some ⟨g5, 0, none⟩), .pointer (some ⟨g7, 0, none⟩), .pointer (some ⟨g8, 0, none⟩)] (dHi L at_) w (.inl rfl) h0 hm hR hB ?_
  intro i c w1 hi hb
  have h := pick_hi i at_ c.rank c.lo c.hi g5 g7 g8 w1 (keepC hb h5) (keepC hb h7) (keepC hb h8)
  have e : (#[Value.int .i64 i, Value.agg #[.int .i64 c.rank, .int .i64 c.lo, .int .i64 c.hi]] ++ #[Value.pointer (some ⟨g5, 0, none⟩), Value.pointer (some ⟨g7, 0, none⟩), Value.pointer (some ⟨g8, 0, none⟩)] : Array Value) = #[Value.int .i64 i, Value.agg #[.int .i64 c.rank, .int .i64 c.lo, .int .i64 c.hi], Value.pointer (some ⟨g5, 0, none⟩), Value.pointer (some ⟨g7, 0, none⟩), Value.pointer (some ⟨g8, 0, none⟩)] := rfl
  have hd : dHi L at_ i = if i = at_ then c.hi else c.lo := by simp [dHi, hi]
  rw [e, hd]
  exact h

theorem justL_ok {L : List Cl3} {d : Nat → Int} (hok : C3Ok L) (hd : ∀ i c, L[i]? = some c → 0 ≤ d i ∧ d i ≤ 1000000000) : C3Ok (justL L d) := by
  intro x hx
  obtain ⟨i, hi⟩ := List.getElem?_of_mem hx
  simp only [justL, List.getElem?_mapIdx] at hi
  cases h : L[i]? with
  | none => rw [h] at hi; simp at hi
  | some c =>
    rw [h] at hi
    simp only [Option.map_some, Option.some.injEq] at hi
    subst hi
    have := hok c (List.mem_of_getElem? h)
    have := hd i c h
    simp only
    omega
theorem justL_len (L : List Cl3) (d : Nat → Int) : (justL L d).length = L.length := by simp [justL]
theorem dLo_bd {L : List Cl3} (hok : C3Ok L) (at_ : Nat) : ∀ i c, L[i]? = some c → 0 ≤ dLo L at_ i ∧ dLo L at_ i ≤ 1000000000 := by
  intro i c h
  have := hok c (List.mem_of_getElem? h)
  simp only [dLo, h]
  split <;> omega
theorem dHi_bd {L : List Cl3} (hok : C3Ok L) (at_ : Nat) : ∀ i c, L[i]? = some c → 0 ≤ dHi L at_ i ∧ dHi L at_ i ≤ 1000000000 := by
  intro i c h
  have := hok c (List.mem_of_getElem? h)
  simp only [dHi, h]
  split <;> omega
/-- What a claim gets, of the cents that a function says. -/
def shareV (L : List Cl3) (d : Nat → Int) (P : Int) (at_ : Nat) : Int := (pays (justL L d) P).getD at_ 0

set_option maxRecDepth 100000 in
set_option maxHeartbeats 2000000 in
theorem share_lo (lo hi : Int) (A A3 : Option Addr) (n cap cap3 : Nat) (L : List Cl3) (B at_ g : Nat) (P : Int) (w : World) (h9 : L.length ≤ 9) (hat : at_ < L.length) (hok : C3Ok L) (hR : RdN 3 encC3 w B A3 L) (hB : B ≤ w.heap.size) (hP0 : 0 ≤ P) (hP9 : P ≤ 1000000000)
    (e0 : w.cell? ⟨g, 0, none⟩ = some (.int .i64 lo)) (e1 : w.cell? ⟨g, 1, none⟩ = some (.int .i64 hi)) (e2 : w.cell? ⟨g, 2, none⟩ = some (.slice A n cap)) (e3 : w.cell? ⟨g, 3, none⟩ = some (.slice A3 L.length cap3)) :
    Calls Try.prog 80 #[.int .i64 at_, .int .i64 P, fv 83, fv 84, .pointer (some ⟨g, 0, none⟩)] w fun e w' => e = .returned (iv (shareV L (dLo L at_) P at_)) ∧ Below w.heap.size w w' := by
  have hj := fun W h5 h7 h8 hR hB => just_lo lo hi A A3 n cap cap3 L B at_ w.heap.size (w.heap.size + 1) (w.heap.size + 1 + 1) W (by omega) (by omega) hR hB h5 h7 h8
  have hokj := justL_ok hok (dLo_bd hok at_)
  have hpy := fun W A capL (hR : RdN 3 encC3 W W.heap.size A (justL L (dLo L at_))) => pay_any A (justL L (dLo L at_)) W.heap.size capL P W (by rw [justL_len]; exact h9) hP0 hP9 hokj hR (Nat.le_refl _)
  unfold PayPost at hpy
  rw [justL_len] at hpy
  have HJ := Lib.hid hj
  have HPY := Lib.hid hpy
  have HAT := Lib.hid hat
  have hatz : (at_ : Int) < (L.length : Int) := by omega
  have hbw0 : Below w.heap.size w (((w.alloc (.cells #[.int .i64 at_] 3)).alloc (.cells #[fv 83] 130)).alloc (.cells #[fv 84] 130)) := belowA (belowA (belowA (belowR w) _) _) _
  have k0 := keepC hbw0 e0
  have k1 := keepC hbw0 e1
  have k2 := keepC hbw0 e2
  have k3 := keepC hbw0 e3
  have hR0 := hR.below hbw0 hB
  have HR0 := Lib.hid hR0
  have HBW := Lib.hid hbw0
  clear hj hok hokj hpy e0 e1 e2 e3 hR hR0 hbw0
  go_enter Try.func80, Try.ntmps80
  go_wp2_with fail
  refine (HJ.out _ (by go_simp) (by go_simp) (by go_simp) HR0.out (Nat.le_trans hB HBW.out.size)).mono ?_
  rintro e w1 ⟨A5, cap5, rfl, hown, hb⟩
  have hB1 := belowT HBW.out hb
  have hrd : RdN 3 encC3 w1 w1.heap.size A5 (justL L (dLo L at_)) := by
    have := hown
    rw [← justL_len L (dLo L at_)] at this
    obtain ⟨A6, cap6, e6, hrd6, _⟩ := own_rdN enc3_len this
    injection e6 with e61 e62 e63
    subst e61
    exact hrd6
  have q5 : w1.cell? ⟨w.heap.size, 0, none⟩ = some (.int .i64 at_) := keepC hb (by go_simp)
  have HRD := Lib.hid hrd
  clear hb hown hrd k0 k1 k2 k3
  go_wp2_with fail
  refine (HPY.out _ _ _ HRD.out).mono ?_
  rintro e w2 ⟨A2, cap2, rfl, hown2, hb2⟩
  have hB2 := belowT hB1 hb2
  obtain ⟨p, hp⟩ : ∃ p, (pays (justL L (dLo L at_)) P)[at_]? = some p := ⟨_, List.getElem?_eq_getElem (by simp [pays, justL_len]; exact HAT.out)⟩
  obtain ⟨g6, cap6, e6, _⟩ := own_form hown2 (by have := HAT.out; omega)
  injection e6 with e61 e62 e63
  subst e61
  have hc9 : at_ < L.length * 1 := by have := HAT.out; omega
  have hcell := hown2.cellAt at_ hc9
  rw [List.getElem?_map, hp] at hcell
  simp only [Option.map_some] at hcell
  have hcell' : w2.cell? ⟨g6, at_, none⟩ = some (iv p) := hcell
  have hsv : shareV L (dLo L at_) P at_ = p := by unfold shareV; rw [List.getD_eq_getElem?_getD, hp]; rfl
  have q6 : w2.cell? ⟨w.heap.size, 0, none⟩ = some (.int .i64 at_) := keepC hb2 q5
  have HSV := Lib.hid hsv
  clear hb2 hown2 hp hcell q5 hsv HJ HPY
  go_wp2
  go_ret
  exact ⟨by rw [HSV.out]; rfl, hB2⟩
set_option maxRecDepth 100000 in
set_option maxHeartbeats 2000000 in
theorem share_hi (lo hi : Int) (A A3 : Option Addr) (n cap cap3 : Nat) (L : List Cl3) (B at_ g : Nat) (P : Int) (w : World) (h9 : L.length ≤ 9) (hat : at_ < L.length) (hok : C3Ok L) (hR : RdN 3 encC3 w B A3 L) (hB : B ≤ w.heap.size) (hP0 : 0 ≤ P) (hP9 : P ≤ 1000000000)
    (e0 : w.cell? ⟨g, 0, none⟩ = some (.int .i64 lo)) (e1 : w.cell? ⟨g, 1, none⟩ = some (.int .i64 hi)) (e2 : w.cell? ⟨g, 2, none⟩ = some (.slice A n cap)) (e3 : w.cell? ⟨g, 3, none⟩ = some (.slice A3 L.length cap3)) :
    Calls Try.prog 80 #[.int .i64 at_, .int .i64 P, fv 84, fv 83, .pointer (some ⟨g, 0, none⟩)] w fun e w' => e = .returned (iv (shareV L (dHi L at_) P at_)) ∧ Below w.heap.size w w' := by
  have hj := fun W h5 h7 h8 hR hB => just_hi lo hi A A3 n cap cap3 L B at_ w.heap.size (w.heap.size + 1) (w.heap.size + 1 + 1) W (by omega) (by omega) hR hB h5 h7 h8
  have hokj := justL_ok hok (dHi_bd hok at_)
  have hpy := fun W A capL (hR : RdN 3 encC3 W W.heap.size A (justL L (dHi L at_))) => pay_any A (justL L (dHi L at_)) W.heap.size capL P W (by rw [justL_len]; exact h9) hP0 hP9 hokj hR (Nat.le_refl _)
  unfold PayPost at hpy
  rw [justL_len] at hpy
  have HJ := Lib.hid hj
  have HPY := Lib.hid hpy
  have HAT := Lib.hid hat
  have hatz : (at_ : Int) < (L.length : Int) := by omega
  have hbw0 : Below w.heap.size w (((w.alloc (.cells #[.int .i64 at_] 3)).alloc (.cells #[fv 84] 130)).alloc (.cells #[fv 83] 130)) := belowA (belowA (belowA (belowR w) _) _) _
  have k0 := keepC hbw0 e0
  have k1 := keepC hbw0 e1
  have k2 := keepC hbw0 e2
  have k3 := keepC hbw0 e3
  have hR0 := hR.below hbw0 hB
  have HR0 := Lib.hid hR0
  have HBW := Lib.hid hbw0
  clear hj hok hokj hpy e0 e1 e2 e3 hR hR0 hbw0
  go_enter Try.func80, Try.ntmps80
  go_wp2_with fail
  refine (HJ.out _ (by go_simp) (by go_simp) (by go_simp) HR0.out (Nat.le_trans hB HBW.out.size)).mono ?_
  rintro e w1 ⟨A5, cap5, rfl, hown, hb⟩
  have hB1 := belowT HBW.out hb
  have hrd : RdN 3 encC3 w1 w1.heap.size A5 (justL L (dHi L at_)) := by
    have := hown
    rw [← justL_len L (dHi L at_)] at this
    obtain ⟨A6, cap6, e6, hrd6, _⟩ := own_rdN enc3_len this
    injection e6 with e61 e62 e63
    subst e61
    exact hrd6
  have q5 : w1.cell? ⟨w.heap.size, 0, none⟩ = some (.int .i64 at_) := keepC hb (by go_simp)
  have HRD := Lib.hid hrd
  clear hb hown hrd k0 k1 k2 k3
  go_wp2_with fail
  refine (HPY.out _ _ _ HRD.out).mono ?_
  rintro e w2 ⟨A2, cap2, rfl, hown2, hb2⟩
  have hB2 := belowT hB1 hb2
  obtain ⟨p, hp⟩ : ∃ p, (pays (justL L (dHi L at_)) P)[at_]? = some p := ⟨_, List.getElem?_eq_getElem (by simp [pays, justL_len]; exact HAT.out)⟩
  obtain ⟨g6, cap6, e6, _⟩ := own_form hown2 (by have := HAT.out; omega)
  injection e6 with e61 e62 e63
  subst e61
  have hc9 : at_ < L.length * 1 := by have := HAT.out; omega
  have hcell := hown2.cellAt at_ hc9
  rw [List.getElem?_map, hp] at hcell
  simp only [Option.map_some] at hcell
  have hcell' : w2.cell? ⟨g6, at_, none⟩ = some (iv p) := hcell
  have hsv : shareV L (dHi L at_) P at_ = p := by unfold shareV; rw [List.getD_eq_getElem?_getD, hp]; rfl
  have q6 : w2.cell? ⟨w.heap.size, 0, none⟩ = some (.int .i64 at_) := keepC hb2 q5
  have HSV := Lib.hid hsv
  clear hb2 hown2 hp hcell q5 hsv HJ HPY
  go_wp2
  go_ret
  exact ⟨by rw [HSV.out]; rfl, hB2⟩
end Go.Proofs.Ytblbbhenmhkknaa
