/- Two rows alike. The law's own hull: its values. No program is named here. Awake. Awake and BlockKnown (printed by mkE22.py). -/
import Derived.Test.YtojgdallodmanaaZ716ab2
namespace Go.Proofs.Ytojgdallodmanaa
open Go.RowKit Go.Shelf
attribute [local go_sem] Oper.semAt_some

section
variable {α : Type} [DecidableEq α]
def eqTo (l l' : List α) (i : Nat) : Bool := decide (l.length = l'.length) && decide (l.take i = l'.take i)
theorem eqTo_zero (l l' : List α) : eqTo l l' 0 = decide (l.length = l'.length) := by simp [eqTo]
theorem eqTo_false {l l' : List α} {i : Nat} (h : eqTo l l' i = false) : decide (l = l') = false := by
  rw [decide_eq_false_iff_not]
  rintro rfl
  simp [eqTo] at h
theorem eqTo_full {l l' : List α} (h : eqTo l l' l.length = true) : decide (l = l') = true := by
  simp only [eqTo, Bool.and_eq_true, decide_eq_true_eq] at h
  obtain ⟨h1, h2⟩ := h
  rw [List.take_length, h1, List.take_length] at h2
  rw [decide_eq_true_eq]
  exact h2
theorem eqTo_len {l l' : List α} {i : Nat} (h : eqTo l l' i = true) : l.length = l'.length := by
  simp only [eqTo, Bool.and_eq_true, decide_eq_true_eq] at h
  exact h.1
theorem eqTo_step {l l' : List α} {i : Nat} {x y : α} (h : eqTo l l' i = true) (hx : l[i]? = some x) (hy : l'[i]? = some y) : eqTo l l' (i + 1) = decide (x = y) := by
  simp only [eqTo, Bool.and_eq_true, decide_eq_true_eq] at h
  obtain ⟨h1, h2⟩ := h
  have e1 : l.take (i + 1) = l.take i ++ [x] := by rw [List.take_add_one, hx]; rfl
  have e2 : l'.take (i + 1) = l'.take i ++ [y] := by rw [List.take_add_one, hy]; rfl
  unfold eqTo
  rw [e1, e2, h2, h1]
  simp
end

@[go_sem] theorem eq25 (a b c d : Int) (w : World) : (Op.equalIn 10000 25 (.agg #[.int .i64 a, .int .i64 b]) (.agg #[.int .i64 c, .int .i64 d])).run Try.prog w = .ok (a == c && b == d) w := by
  have u3 := Try.underlying3
  have a3 := Try.isAgg3
  have z3 := Try.sizeOf3
  have hS : Try.prog.underlying 25 = some (.struct (Try.prog.fieldsOf 25)) := by kernel_rfl
  have hp : Try.prog.stoodInHeld 25 = false := by kernel_rfl
  rw [show (10000 : Nat) = 9999 + 1 from rfl, run_equalIn_agg w 9999 25 _ _ hS hp]
  simp only [Program.fieldsOf, Try.underlying25]
  go_simp
  by_cases h1 : a = c <;> by_cases h2 : b = d <;> simp [h1, h2]

set_option maxRecDepth 100000 in
set_option maxHeartbeats 4000000 in
theorem ints_any (A A' : Option Addr) (l l' : List Int) (B cap cap' : Nat) (w : World) (hR : Rd1 iv w B A l) (hR' : Rd1 iv w B A' l') (hl : l.length ≤ 1000) (_hl' : l'.length ≤ 1000) (hB : B ≤ w.heap.size) :
    Calls Try.prog 27 #[.slice A l.length cap, .slice A' l'.length cap'] w fun e w' => e = .returned (.bool (decide (l = l'))) ∧ Below w.heap.size w w' := by
  have HR := Lib.hid (And.intro hR hR')
  obtain ⟨R, hRR⟩ : ∃ R, decide (l = l') = R := ⟨_, rfl⟩
  have HRR := Lib.hid hRR
  have HZ := Lib.hid (eqTo_zero l l')
  obtain ⟨z, hz⟩ : ∃ z, eqTo l l' 0 = z := ⟨_, rfl⟩
  rw [hz] at HZ
  have HZZ := Lib.hid hz
  have hzi : ((l.length : Int) == (l'.length : Int)) = z := by
    rw [HZ.out]
    rw [Bool.eq_iff_iff]
    simp
    omega
  rw [hRR]
  clear hRR hR hR' hz
  go_enter Try.func27, Try.ntmps27
  go_wp2_with fail
  clear hzi
  go_loopw [5, 6] (fun vs vi wr => ∃ (q : Bool) (i : Nat), i ≤ l.length ∧ vi = .int .i64 i ∧ vs = .bool q ∧ Hid (eqTo l l' i = q) ∧ Hid (Below w.heap.size w wr)) (fun _ vi _ => l.length - (intOf vi).toNat)
  case atStart => exact ⟨z, 0, Nat.zero_le _, rfl, rfl, HZZ, Lib.hid (belowR w)⟩
  case round =>
    obtain ⟨q, i, hi, rfl, rfl, HQ, HW⟩ := hrel
    by_cases hlt : i < l.length
    · cases q
      · go_wp2_with fail
        go_ret
        exact ⟨by rw [← HRR.out, eqTo_false HQ.out]; rfl, HW.out⟩
      · have hle := eqTo_len HQ.out
        obtain ⟨x, hx⟩ : ∃ x, l[i]? = some x := ⟨_, List.getElem?_eq_getElem hlt⟩
        obtain ⟨y, hy⟩ : ∃ y, l'[i]? = some y := ⟨_, List.getElem?_eq_getElem (by omega)⟩
        have hst := eqTo_step HQ.out hx hy
        have hlt' : i < l'.length := by omega
        have hwr := HW.out.size
        obtain ⟨b1, o1, rfl, hb1, c1⟩ := HR.out.1 i x hx
        obtain ⟨b2, o2, rfl, hb2, c2⟩ := HR.out.2 i y hy
        have c1 := (HW.out.cell (p := ⟨b1, o1 + i, none⟩) (by simp only; omega)).trans c1
        have c2 := (HW.out.cell (p := ⟨b2, o2 + i, none⟩) (by simp only; omega)).trans c2
        have d1 : wr.drew.cell? ⟨b1, o1 + i, none⟩ = some (iv x) := c1
        have d2 : wr.drew.cell? ⟨b2, o2 + i, none⟩ = some (iv y) := c2
        have hxy : (x == y) = decide (x = y) := by rw [Bool.eq_iff_iff]; simp
        obtain ⟨q, hq⟩ : ∃ q, decide (x = y) = q := ⟨_, rfl⟩
        rw [hq] at hst hxy
        have HST := Lib.hid hst
        clear hst hq hx hy c1 c2 hle
        go_wp2_with fail
        go_region_held3 (fun W => W.cell? ⟨b1, o1 + i, none⟩ = some (iv x) ∧ W.cell? ⟨b2, o2 + i, none⟩ = some (iv y)) (exact ⟨d1, d2⟩) (fail)
        go_wp2_with fail
        exact ⟨⟨q, i + 1, by omega, by go_num, rfl, HST, Lib.hid (belowDq HW.out)⟩, by simp [intOf]; omega⟩
    · obtain rfl : i = l.length := by omega
      have hr : q = R := by
        rw [← HRR.out]
        cases q
        · exact (eqTo_false HQ.out).symm
        · exact (eqTo_full HQ.out).symm
      go_wp2_with fail
      go_ret
      exact ⟨by rw [hr]; rfl, HW.out⟩
set_option maxRecDepth 100000 in
set_option maxHeartbeats 4000000 in
theorem spans_any (A A' : Option Addr) (l l' : List (Int × Int)) (B cap cap' : Nat) (w : World) (hR : RdN 2 encSp w B A l) (hR' : RdN 2 encSp w B A' l') (hl : l.length ≤ 1000) (_hl' : l'.length ≤ 1000) (hB : B ≤ w.heap.size) :
    Calls Try.prog 21 #[.slice A l.length cap, .slice A' l'.length cap'] w fun e w' => e = .returned (.bool (decide (l = l'))) ∧ Below w.heap.size w w' := by
  have HR := Lib.hid (And.intro hR hR')
  obtain ⟨R, hRR⟩ : ∃ R, decide (l = l') = R := ⟨_, rfl⟩
  have HRR := Lib.hid hRR
  have HZ := Lib.hid (eqTo_zero l l')
  obtain ⟨z, hz⟩ : ∃ z, eqTo l l' 0 = z := ⟨_, rfl⟩
  rw [hz] at HZ
  have HZZ := Lib.hid hz
  have hzi : ((l.length : Int) == (l'.length : Int)) = z := by
    rw [HZ.out]
    rw [Bool.eq_iff_iff]
    simp
    omega
  rw [hRR]
  clear hRR hR hR' hz
  have gm : Try.prog.eqGuardType Try.prog.depth 25 = false := by kernel_rfl
  have hbo : ∀ (a b c d : Int) (w : World), (binOp .eql 25 (.agg #[.int .i64 a, .int .i64 b]) (.agg #[.int .i64 c, .int .i64 d])).run Try.prog w = .ok (.bool (a == c && b == d)) w := fun a b c d w => by rw [run_eql_struct, eq25]; rfl
  go_enter Try.func21, Try.ntmps21
  go_wp2_with fail
  clear hzi
  go_loopw [5, 6] (fun vs vi wr => ∃ (q : Bool) (i : Nat), i ≤ l.length ∧ vi = .int .i64 i ∧ vs = .bool q ∧ Hid (eqTo l l' i = q) ∧ Hid (Below w.heap.size w wr)) (fun _ vi _ => l.length - (intOf vi).toNat)
  case atStart => exact ⟨z, 0, Nat.zero_le _, rfl, rfl, HZZ, Lib.hid (belowR w)⟩
  case round =>
    obtain ⟨q, i, hi, rfl, rfl, HQ, HW⟩ := hrel
    by_cases hlt : i < l.length
    · cases q
      · go_wp2_with fail
        go_ret
        exact ⟨by rw [← HRR.out, eqTo_false HQ.out]; rfl, HW.out⟩
      · have hle := eqTo_len HQ.out
        obtain ⟨x, hx⟩ : ∃ x, l[i]? = some x := ⟨_, List.getElem?_eq_getElem hlt⟩
        obtain ⟨y, hy⟩ : ∃ y, l'[i]? = some y := ⟨_, List.getElem?_eq_getElem (by omega)⟩
        have hst := eqTo_step HQ.out hx hy
        have hlt' : i < l'.length := by omega
        have hwr := HW.out.size
        obtain ⟨b1, o1, rfl, hb1, c1⟩ := HR.out.1 i x hx
        obtain ⟨b2, o2, rfl, hb2, c2⟩ := HR.out.2 i y hy
        obtain ⟨x1, x2⟩ := x
        obtain ⟨y1, y2⟩ := y
        have d1 : wr.drew.cell? ⟨b1, o1 + i * 2, none⟩ = some (iv x1) := (HW.out.cell (p := ⟨b1, _, none⟩) (by simp only; omega)).trans (c1 0 _ rfl)
        have d2 : wr.drew.cell? ⟨b1, o1 + i * 2 + 1, none⟩ = some (iv x2) := (HW.out.cell (p := ⟨b1, _, none⟩) (by simp only; omega)).trans (c1 1 _ rfl)
        have d3 : wr.drew.cell? ⟨b2, o2 + i * 2, none⟩ = some (iv y1) := (HW.out.cell (p := ⟨b2, _, none⟩) (by simp only; omega)).trans (c2 0 _ rfl)
        have d4 : wr.drew.cell? ⟨b2, o2 + i * 2 + 1, none⟩ = some (iv y2) := (HW.out.cell (p := ⟨b2, _, none⟩) (by simp only; omega)).trans (c2 1 _ rfl)
        have hxy : (x1 == y1 && x2 == y2) = decide ((x1, x2) = (y1, y2)) := by rw [Bool.eq_iff_iff]; simp
        obtain ⟨q, hq⟩ : ∃ q, decide ((x1, x2) = (y1, y2)) = q := ⟨_, rfl⟩
        rw [hq] at hst hxy
        have HST := Lib.hid hst
        clear hst hq hx hy c1 c2 hle
        go_wp2_with fail
        go_region_held3 (fun W => W.cell? ⟨b1, o1 + i * 2, none⟩ = some (iv x1) ∧ W.cell? ⟨b1, o1 + i * 2 + 1, none⟩ = some (iv x2) ∧ W.cell? ⟨b2, o2 + i * 2, none⟩ = some (iv y1) ∧ W.cell? ⟨b2, o2 + i * 2 + 1, none⟩ = some (iv y2)) (exact ⟨d1, d2, d3, d4⟩) (fail)
        go_wp2_with fail
        exact ⟨⟨q, i + 1, by omega, by go_num, rfl, HST, Lib.hid (belowDq HW.out)⟩, by simp [intOf]; omega⟩
    · obtain rfl : i = l.length := by omega
      have hr : q = R := by
        rw [← HRR.out]
        cases q
        · exact (eqTo_false HQ.out).symm
        · exact (eqTo_full HQ.out).symm
      go_wp2_with fail
      go_ret
      exact ⟨by rw [hr]; rfl, HW.out⟩
end Go.Proofs.Ytojgdallodmanaa

namespace Go.Proofs.Ytojgdallodmanaa
open Go.RowKit

def treeA : List Nd := treeTo ((allW [] 4).map ndOf) 1
def treeB : List Nd := treeTo ((allW wgh7 4).map ndOf) 2
theorem tree_none {N : List Nd} (h : IsTree hul7 [] N) : N = treeA := by
  obtain ⟨X, hp, _, rfl⟩ := h
  have e : allW [] hul7.ps.length = [⟨15, 0, 400000⟩] := by kernel_rfl
  rw [e] at hp
  have hX := List.perm_singleton.1 hp.symm
  rw [hX]
  have e2 : allW [] 4 = [⟨15, 0, 400000⟩] := e
  unfold treeA
  rw [e2]
  rfl
theorem tree_one {N : List Nd} (h : IsTree hul7 wgh7 N) : N = treeB := by
  obtain ⟨X, hp, hs, rfl⟩ := h
  have e : allW wgh7 hul7.ps.length = [⟨12, 350, 360⟩, ⟨15, 0, 400000⟩] := by kernel_rfl
  rw [e] at hp
  have e2 : allW wgh7 4 = [⟨12, 350, 360⟩, ⟨15, 0, 400000⟩] := e
  have hX : X = [⟨12, 350, 360⟩, ⟨15, 0, 400000⟩] := by
    have hl := hp.length_eq
    match X, hl with
    | [a, b], _ =>
      have ha := hp.symm.subset (List.mem_cons_self (a := a) (l := [b]))
      have hb := hp.symm.subset (show b ∈ [a, b] by simp)
      have hc := hp.subset (show (⟨12, 350, 360⟩ : Wgh) ∈ [(⟨12, 350, 360⟩ : Wgh), ⟨15, 0, 400000⟩] by simp)
      have hd := hp.subset (show (⟨15, 0, 400000⟩ : Wgh) ∈ [(⟨12, 350, 360⟩ : Wgh), ⟨15, 0, 400000⟩] by simp)
      simp only [List.pairwise_cons, List.mem_cons, List.not_mem_nil, or_false, forall_eq] at hs
      have hs := hs.1
      simp only [List.mem_cons, List.not_mem_nil, or_false] at ha hb hc hd
      rcases ha with rfl | rfl
      · rcases hb with rfl | rfl
        · rcases hd with hd | hd <;> (injection hd with hd; exact absurd hd (by decide))
        · rfl
      · rcases hb with rfl | rfl
        · exact absurd hs (by decide)
        · rcases hc with hd | hd <;> (injection hd with hd; exact absurd hd (by decide))
  rw [hX]
  unfold treeB
  rw [e2]
  rfl
theorem pre_none : openPre hul7 [] = 0 := by decide +kernel
theorem pre_one : openPre hul7 wgh7 = 0 := by decide +kernel
def wts (a b c d : Int) (i : Nat) : Int := match i with
  | 0 => a
  | 1 => b
  | 2 => c
  | _ => d
theorem feas_none : Feas hul7 [] := by
  refine ⟨wts 100 200 50 300, fun i p hp => ?_, fun x hx => by cases hx⟩
  match i, hp with
  | 0, hp => injection hp with hp; subst hp; decide
  | 1, hp => injection hp with hp; subst hp; decide
  | 2, hp => injection hp with hp; subst hp; decide
  | 3, hp => injection hp with hp; subst hp; decide
theorem feas_one : Feas hul7 wgh7 := by
  refine ⟨wts 100 200 50 300, fun i p hp => ?_, fun x hx => ?_⟩
  · match i, hp with
    | 0, hp => injection hp with hp; subst hp; decide
    | 1, hp => injection hp with hp; subst hp; decide
    | 2, hp => injection hp with hp; subst hp; decide
    | 3, hp => injection hp with hp; subst hp; decide
  · rw [wgh7, List.mem_singleton] at hx
    subst hx
    decide +kernel
theorem openE_none : openE hul7 [] = 0 := by unfold openE; rw [if_pos pre_none, if_pos feas_none]
theorem openE_one : openE hul7 wgh7 = 0 := by unfold openE; rw [if_pos pre_one, if_pos feas_one]

/-- A greater weight can be, where a lesser one can. -/
theorem canF_mono (h : Hul) (N : List Nd) (b : Nat) {x y : Nat} (hxy : x ≤ y) (hc : canF h N b x = true) : canF h N b y = true := by
  unfold canF at hc ⊢
  rw [List.any_eq_true] at hc ⊢
  obtain ⟨C, hC, hf⟩ := hc
  refine ⟨C, hC, ?_⟩
  unfold fitsCut at hf ⊢
  simp only [Bool.not_eq_true', anyTo, List.any_eq_false] at hf ⊢
  intro i hi
  have := hf i hi
  simp only [decide_eq_true_eq] at this ⊢
  omega
theorem lightW_is {h : Hul} {N : List Nd} {b v : Nat} (hv : v + 1 ≤ h.ps.length * 100000 + 1) (h1 : canF h N b (v + 1 : Nat) = true) (h0 : canF h N b v = false) : lightW h N b = v + 1 := by
  have hl := searchF_least (pred := fun k => canF h N b k) (fun a c hac hp => canF_mono h N b hac hp) (h.ps.length * 100000 + 2) 0 (h.ps.length * 100000 + 1) (Nat.zero_le _) (by omega) (fun k hk => by omega)
  obtain ⟨_, l2, l3, l4⟩ := hl
  have e : searchF (fun k => canF h N b k) (h.ps.length * 100000 + 2) 0 (h.ps.length * 100000 + 1) = lightW h N b := rfl
  rw [e] at l2 l3 l4
  obtain ⟨R, hR⟩ : ∃ R, lightW h N b = R := ⟨_, rfl⟩
  rw [hR] at l2 l3 l4 ⊢
  rcases Nat.lt_trichotomy R (v + 1) with hlt | heq | hgt
  · have hp := l4 (by omega)
    have := canF_mono h N b (show R ≤ v by omega) hp
    rw [h0] at this
    cases this
  · exact heq
  · have := l3 (v + 1) hgt
    rw [h1] at this
    cases this

theorem val_few0 : fewOf hul7 treeA = (3, [0, 0, 1, 2, 0, 0, 0, 0]) := by kernel_rfl
theorem val_few1 : fewOf hul7 treeB = (2, [0, 0, 1, 1, 0, 0, 0, 0]) := by kernel_rfl
theorem val_bad1 : badAt hul7 treeB (blkTo (cut8 [0, 0, 1, 1]) 4) (manyTo (cut8 [0, 0, 1, 1]) 4) = -1 := by kernel_rfl
theorem val_bad0 : badAt hul7 treeA (blkTo (cut8 [0, 1, 0, 2]) 4) (manyTo (cut8 [0, 1, 0, 2]) 4) = 0 := by kernel_rfl
theorem val_bad0b : badAt hul7 treeA (blkTo (cut8 [0, 0, 1, 1]) 4) (manyTo (cut8 [0, 0, 1, 1]) 4) = 1 := by kernel_rfl
theorem val_light1 : lightW hul7 treeA 1 = 730 := lightW_is (v := 729) (by decide) (by kernel_rfl) (by kernel_rfl)
theorem val_light2 : lightW hul7 treeA 2 = 390 := lightW_is (v := 389) (by decide) (by kernel_rfl) (by kernel_rfl)
theorem val_light3 : lightW hul7 treeA 3 = 330 := lightW_is (v := 329) (by decide) (by kernel_rfl) (by kernel_rfl)
theorem val_spans : spansV hul7 treeB 4 = [(100, 120), (200, 220), (50, 60), (300, 310)] := by kernel_rfl
theorem val_lim : limL treeB 12 (mostV hul7 treeB 12) hul7.ps 4 = [100, 200, 50, 310] := by kernel_rfl
theorem val_pull0 : pullV hul7 (leastV hul7 treeA 12) (mostV hul7 treeA 12) = (175, 234) := by kernel_rfl
theorem val_pull1 : pullV hul7 (leastV hul7 treeB 12) (mostV hul7 treeB 12) = (175, 216) := by kernel_rfl
end Go.Proofs.Ytojgdallodmanaa

namespace Go.Proofs.Ytojgdallodmanaa
open Go.RowKit Go.Shelf
attribute [local go_sem] Oper.semAt_some

theorem rdNil (w : World) (B : Nat) : RdN 3 encWgh w B none [] := RdN.nil
/-- What each question says of the law's own hull. -/
theorem weights7 {w : World} {A J AL : Option Addr} (hH : HulRd w w.heap.size hul7 A 4 J 3) (hL : RdN 3 encWgh w w.heap.size AL wgh7) :
    Calls Try.prog 19 #[hv hul7 A 4 J 3, .slice AL 1 1] w fun e w' => Below w.heap.size w w' ∧ ∃ A cap, e = .returned (.tuple #[.slice A 4 cap, iv 0]) ∧ RdN 2 encSp w' w'.heap.size A [(100, 120), (200, 220), (50, 60), (300, 310)] := by
  refine (weights_any hul7 A J w.heap.size 4 3 AL wgh7 1 w hH hL (by decide) (Nat.le_refl _)).mono ?_
  rintro e w' ⟨hb, h | ⟨_, _, _, N, A', cap', hN, rfl, ho⟩⟩
  · exact absurd openE_one h.1
  · refine ⟨hb, A', cap', rfl, ?_⟩
    rw [tree_one hN] at ho
    have : (spansV hul7 treeB hul7.ps.length) = [(100, 120), (200, 220), (50, 60), (300, 310)] := val_spans
    rw [this] at ho
    obtain ⟨A2, cap2, e2, hr, _⟩ := own_rdN (xs := [((100 : Int), (120 : Int)), (200, 220), (50, 60), (300, 310)]) encSp_len ho
    injection e2 with e2 _ _
    subst e2
    exact hr
theorem pull7 {w : World} {A J AL : Option Addr} (hH : HulRd w w.heap.size hul7 A 4 J 3) (hL : RdN 3 encWgh w w.heap.size AL wgh7) :
    Calls Try.prog 22 #[hv hul7 A 4 J 3, .slice AL 1 1, iv 12] w fun e w' => Below w.heap.size w w' ∧ e = .returned (.tuple #[.agg #[iv 175, iv 216], iv 0]) := by
  refine (pull_any hul7 A J w.heap.size 4 3 AL wgh7 1 12 w hH hL (by decide) (Nat.le_refl _)).mono ?_
  rintro e w' ⟨hb, h | ⟨_, _, _, _, N, hN, rfl⟩⟩
  · exact absurd (by unfold enterE; rw [if_pos openE_one]; kernel_rfl) h.1
  · refine ⟨hb, ?_⟩
    rw [tree_one hN]
    have : pullV hul7 (leastV hul7 treeB (12 : Int).toNat) (mostV hul7 treeB (12 : Int).toNat) = (175, 216) := val_pull1
    rw [this]
theorem pull70 {w : World} {A J : Option Addr} (hH : HulRd w w.heap.size hul7 A 4 J 3) :
    Calls Try.prog 22 #[hv hul7 A 4 J 3, .slice none 0 0, iv 12] w fun e w' => Below w.heap.size w w' ∧ e = .returned (.tuple #[.agg #[iv 175, iv 234], iv 0]) := by
  refine (pull_any hul7 A J w.heap.size 4 3 none [] 0 12 w hH RdN.nil (by decide) (Nat.le_refl _)).mono ?_
  rintro e w' ⟨hb, h | ⟨_, _, _, _, N, hN, rfl⟩⟩
  · exact absurd (by unfold enterE; rw [if_pos openE_none]; kernel_rfl) h.1
  · refine ⟨hb, ?_⟩
    rw [tree_none hN]
    have : pullV hul7 (leastV hul7 treeA (12 : Int).toNat) (mostV hul7 treeA (12 : Int).toNat) = (175, 234) := val_pull0
    rw [this]
theorem pull75 {w : World} {A J : Option Addr} (hH : HulRd w w.heap.size hul7 A 4 J 3) :
    Calls Try.prog 22 #[hv hul7 A 4 J 3, .slice none 0 0, iv 5] w fun e w' => Below w.heap.size w w' ∧ e = .returned (.tuple #[.agg #[iv 0, iv 0], iv 6]) := by
  have he : enterE hul7 [] 5 = 6 := by unfold enterE; rw [if_pos openE_none]; kernel_rfl
  refine (pull_any hul7 A J w.heap.size 4 3 none [] 0 5 w hH RdN.nil (by decide) (Nat.le_refl _)).mono ?_
  rintro e w' ⟨hb, ⟨_, rfl⟩ | h⟩
  · exact ⟨hb, by rw [he]⟩
  · exact absurd h.1 (by rw [he]; decide)
theorem heaviest7 {w : World} {A J AL : Option Addr} (hH : HulRd w w.heap.size hul7 A 4 J 3) (hL : RdN 3 encWgh w w.heap.size AL wgh7) :
    Calls Try.prog 25 #[hv hul7 A 4 J 3, .slice AL 1 1, iv 12] w fun e w' => Below w.heap.size w w' ∧ ∃ A cap, e = .returned (.tuple #[.slice A 4 cap, iv 0]) ∧ Rd1 iv w' w'.heap.size A [100, 200, 50, 310] := by
  refine (heaviest_any hul7 A J w.heap.size 4 3 AL wgh7 1 12 w hH hL (by decide) (Nat.le_refl _)).mono ?_
  rintro e w' ⟨hb, h | ⟨_, _, _, _, N, A', cap', hN, rfl, ho⟩⟩
  · exact absurd (by unfold enterE; rw [if_pos openE_one]; kernel_rfl) h.1
  · refine ⟨hb, A', cap', rfl, ?_⟩
    rw [tree_one hN] at ho
    have : limL treeB (12 : Int).toNat (mostV hul7 treeB (12 : Int).toNat) hul7.ps hul7.ps.length = [100, 200, 50, 310] := val_lim
    rw [this] at ho
    exact own_rdP ho rfl
theorem bad7 {w : World} {A J AL AN : Option Addr} {capN : Nat} (hH : HulRd w w.heap.size hul7 A 4 J 3) (hL : RdN 3 encWgh w w.heap.size AL wgh7) (hN : Rd1 iv w w.heap.size AN [0, 0, 1, 1]) :
    Calls Try.prog 28 #[hv hul7 A 4 J 3, .slice AL 1 1, .slice AN 4 capN] w fun e w' => Below w.heap.size w w' ∧ e = .returned (.tuple #[iv (-1), iv 0]) := by
  refine (bad_any hul7 A J w.heap.size 4 3 AL wgh7 1 AN [0, 0, 1, 1] capN w hH hL (by decide) hN (by decide) (Nat.le_refl _)).mono ?_
  rintro e w' ⟨hb, h | ⟨_, _, _, h | h | ⟨_, _, N, hN, rfl⟩⟩⟩
  · exact absurd openE_one h.1
  · exact absurd rfl h.1
  · exact absurd h.2.1 (by decide)
  · refine ⟨hb, ?_⟩
    rw [tree_one hN]
    have : badAt hul7 treeB (blkTo (cut8 [0, 0, 1, 1]) hul7.ps.length) (manyTo (cut8 [0, 0, 1, 1]) hul7.ps.length) = -1 := val_bad1
    rw [this]
set_option maxRecDepth 100000 in
theorem bad70 {w : World} {A J AN : Option Addr} {capN : Nat} {ns : List Int} {v : Int} (hc : cutOkTo ns ns.length = true) (hl : ns.length = 4) (hva : badAt hul7 treeA (blkTo (cut8 ns) 4) (manyTo (cut8 ns) 4) = v) (hH : HulRd w w.heap.size hul7 A 4 J 3) (hN : Rd1 iv w w.heap.size AN ns) :
    Calls Try.prog 28 #[hv hul7 A 4 J 3, .slice none 0 0, .slice AN 4 capN] w fun e w' => Below w.heap.size w w' ∧ e = .returned (.tuple #[iv v, iv 0]) := by
  have hb := bad_any hul7 A J w.heap.size 4 3 none [] 0 AN ns capN w hH RdN.nil (by decide) hN (by rw [hl]; decide) (Nat.le_refl _)
  rw [hl] at hb
  refine hb.mono ?_
  rintro e w' ⟨hb, h | ⟨_, _, _, h | h | ⟨_, _, N, hN, rfl⟩⟩⟩
  · exact absurd openE_none h.1
  · exact absurd hl h.1
  · rw [hc] at h; exact absurd h.2.1 (by decide)
  · refine ⟨hb, ?_⟩
    rw [tree_none hN]
    have : badAt hul7 treeA (blkTo (cut8 ns) hul7.ps.length) (manyTo (cut8 ns) hul7.ps.length) = v := hva
    rw [this]
theorem fewest7 {w : World} {A J AL : Option Addr} (hH : HulRd w w.heap.size hul7 A 4 J 3) (hL : RdN 3 encWgh w w.heap.size AL wgh7) :
    Calls Try.prog 30 #[hv hul7 A 4 J 3, .slice AL 1 1] w fun e w' => Below w.heap.size w w' ∧ ∃ A cap, e = .returned (.tuple #[.slice A 4 cap, iv 0]) ∧ Rd1 iv w' w'.heap.size A [0, 0, 1, 1] := by
  refine (fewest_any hul7 A J w.heap.size 4 3 AL wgh7 1 w hH hL (by decide) (Nat.le_refl _)).mono ?_
  rintro e w' ⟨hb, h | ⟨_, _, _, N, hN, h | ⟨_, A', cap', rfl, ho⟩⟩⟩
  · exact absurd openE_one h.1
  · rw [tree_one hN, val_few1] at h; exact absurd h.1 (by decide)
  · refine ⟨hb, A', cap', rfl, ?_⟩
    rw [tree_one hN, val_few1] at ho
    exact own_rdP (xs := [(0 : Int), 0, 1, 1]) ho rfl
theorem fewest70 {w : World} {A J : Option Addr} (hH : HulRd w w.heap.size hul7 A 4 J 3) :
    Calls Try.prog 30 #[hv hul7 A 4 J 3, .slice none 0 0] w fun e w' => Below w.heap.size w w' ∧ ∃ A cap, e = .returned (.tuple #[.slice A 4 cap, iv 0]) ∧ Rd1 iv w' w'.heap.size A [0, 0, 1, 2] := by
  refine (fewest_any hul7 A J w.heap.size 4 3 none [] 0 w hH RdN.nil (by decide) (Nat.le_refl _)).mono ?_
  rintro e w' ⟨hb, h | ⟨_, _, _, N, hN, h | ⟨_, A', cap', rfl, ho⟩⟩⟩
  · exact absurd openE_none h.1
  · rw [tree_none hN, val_few0] at h; exact absurd h.1 (by decide)
  · refine ⟨hb, A', cap', rfl, ?_⟩
    rw [tree_none hN, val_few0] at ho
    exact own_rdP (xs := [(0 : Int), 0, 1, 2]) ho rfl
theorem count7 {F : Nat → Int × Int} {b L : Nat} {x : Int} (hb1 : 1 ≤ b ∧ b ≤ 8) (hL : lightW hul7 treeA b = L) (hl : L ≤ 400000) (hF : F L = (x, 0)) {w : World} {e : Ending} {w' : World} (h : CountOne F hul7 [] b w e w') : Below w.heap.size w w' ∧ e = .returned (.tuple #[iv x, iv 0]) := by
  obtain ⟨hb, h | h | ⟨_, _, _, _, _, N, hN, h | h⟩⟩ := h
  · exact absurd openE_none h.1
  · exact absurd (by omega) h.2.1
  · rw [tree_none hN, Int.toNat_natCast, hL] at h
    exact absurd h.1 (by simp [hul7]; omega)
  · rw [tree_none hN, Int.toNat_natCast, hL, hF] at h
    exact ⟨hb, h.2⟩
theorem winch7 {b L : Nat} {x : Int} (hb1 : 1 ≤ b ∧ b ≤ 8) (hL : lightW hul7 treeA b = L) (hl : L ≤ 400000) (hF : winchOf hul7 L = (x, 0)) {w : World} {A J : Option Addr} (hH : HulRd w w.heap.size hul7 A 4 J 3) :
    Calls Try.prog 32 #[hv hul7 A 4 J 3, .slice none 0 0, iv b] w fun e w' => Below w.heap.size w w' ∧ e = .returned (.tuple #[iv x, iv 0]) :=
  (winch_any hul7 A J w.heap.size 4 3 none [] 0 b w hH RdN.nil (by decide) (Nat.le_refl _)).mono fun e w' h => count7 hb1 hL hl hF h
theorem sand7 {b L : Nat} {x : Int} (hb1 : 1 ≤ b ∧ b ≤ 8) (hL : lightW hul7 treeA b = L) (hl : L ≤ 400000) (hF : sandOf hul7 L = (x, 0)) {w : World} {A J : Option Addr} (hH : HulRd w w.heap.size hul7 A 4 J 3) :
    Calls Try.prog 34 #[hv hul7 A 4 J 3, .slice none 0 0, iv b] w fun e w' => Below w.heap.size w w' ∧ e = .returned (.tuple #[iv x, iv 0]) :=
  (sand_any hul7 A J w.heap.size 4 3 none [] 0 b w hH RdN.nil (by decide) (Nat.le_refl _)).mono fun e w' h => count7 hb1 hL hl hF h
end Go.Proofs.Ytojgdallodmanaa

namespace Go.Proofs.Ytojgdallodmanaa
open Go.RowKit Go.Shelf
attribute [local go_sem] Oper.semAt_some

theorem HulRd.on {W W' : World} {h : Hul} {A J : Option Addr} {cap capJ : Nat} (H : HulRd W W.heap.size h A cap J capJ) (hb : Below W.heap.size W W') : HulRd W' W'.heap.size h A cap J capJ :=
  ⟨(H.ps.below hb (Nat.le_refl _)).more hb.size, (H.js.below hb (Nat.le_refl _)).more hb.size, H.pl, H.pm, H.jl, H.jm, H.nm⟩
theorem RdN.on {α : Type} {k : Nat} {encs : α → List Value} {W W' : World} {A : Option Addr} {xs : List α} (H : RdN k encs W W.heap.size A xs) (hb : Below W.heap.size W W') : RdN k encs W' W'.heap.size A xs := (H.below hb (Nat.le_refl _)).more hb.size
theorem Rd1.on {α : Type} {enc : α → Value} {W W' : World} {A : Option Addr} {xs : List α} (H : Rd1 enc W W.heap.size A xs) (hb : Below W.heap.size W W') : Rd1 enc W' W'.heap.size A xs := (H.below hb (Nat.le_refl _)).more hb.size
theorem newInts (w : World) (xs : List Int) : Rd1 iv (w.alloc (.cells (xs.map iv).toArray 3)) (w.alloc (.cells (xs.map iv).toArray 3)).heap.size (some ⟨w.heap.size, 0, none⟩) xs := by
  intro i x hx
  refine ⟨w.heap.size, 0, rfl, by simp, ?_⟩
  rw [(Blk.new w 3 _).cell, Nat.zero_add]
  simp [hx]
theorem newSp (w : World) (a b c d e f g h : Int) : RdN 2 encSp (w.alloc (.cells #[iv a, iv b, iv c, iv d, iv e, iv f, iv g, iv h] 25)) (w.alloc (.cells #[iv a, iv b, iv c, iv d, iv e, iv f, iv g, iv h] 25)).heap.size (some ⟨w.heap.size, 0, none⟩) [(a, b), (c, d), (e, f), (g, h)] :=
  Blk.rdN encSp_len (xs := [(a, b), (c, d), (e, f), (g, h)]) (Blk.new w 25 _) (by simp)
theorem newI (w : World) (a b c d : Int) : Rd1 iv (w.alloc (.cells #[iv a, iv b, iv c, iv d] 3)) (w.alloc (.cells #[iv a, iv b, iv c, iv d] 3)).heap.size (some ⟨w.heap.size, 0, none⟩) [a, b, c, d] := newInts w [a, b, c, d]
theorem spansSame (A A' : Option Addr) (l : List (Int × Int)) (cap cap' : Nat) (w : World) (hR : RdN 2 encSp w w.heap.size A l) (hR' : RdN 2 encSp w w.heap.size A' l) (hl : l.length = 4) :
    Calls Try.prog 21 #[.slice A 4 cap, .slice A' 4 cap'] w fun e w' => e = .returned (.bool true) ∧ Below w.heap.size w w' := by
  have h := spans_any A A' l l w.heap.size cap cap' w hR hR' (by omega) (by omega) (Nat.le_refl _)
  rw [hl] at h
  exact h.mono fun e w' hp => ⟨by rw [hp.1]; simp, hp.2⟩
theorem intsSame (A A' : Option Addr) (l : List Int) (cap cap' : Nat) (w : World) (hR : Rd1 iv w w.heap.size A l) (hR' : Rd1 iv w w.heap.size A' l) (hl : l.length = 4) :
    Calls Try.prog 27 #[.slice A 4 cap, .slice A' 4 cap'] w fun e w' => e = .returned (.bool true) ∧ Below w.heap.size w w' := by
  have h := ints_any A A' l l w.heap.size cap cap' w hR hR' (by omega) (by omega) (Nat.le_refl _)
  rw [hl] at h
  exact h.mono fun e w' hp => ⟨by rw [hp.1]; simp, hp.2⟩
set_option maxRecDepth 100000 in
set_option maxHeartbeats 8000000 in
theorem awake_any (w0 : World) : Calls Try.prog 24 #[] w0 fun e w' => e = .returned (.bool true) ∧ Below w0.heap.size w0 w' := by
  have HH := Lib.hid hull_any
  have HG := Lib.hid weighed_any
  go_enter Try.func24, Try.ntmps24
  go_wp2_with fail
  refine (HH.out _).mono ?_
  rintro e w1 ⟨hb1, A1, J1, rfl, hH1⟩
  have S1 : Hid (Below w0.heap.size w0 w1) := Lib.hid hb1
  clear hb1
  have H1 := Lib.hid hH1
  clear hH1
  go_wp2_with fail
  refine (HG.out _).mono ?_
  rintro e w2 ⟨hb2, L1, rfl, hL1⟩
  have S2 : Hid (Below w1.heap.size w1 w2) := Lib.hid hb2
  clear hb2
  have G1 := Lib.hid hL1
  clear hL1
  go_wp2_with fail
  refine (weights7 (H1.out.on S2.out) G1.out).mono ?_
  rintro e w3 ⟨hb3, R1, cp1, rfl, hR1⟩
  have S3 : Hid (Below w2.heap.size w2 w3) := Lib.hid hb3
  clear hb3
  have K1 := Lib.hid hR1
  clear hR1
  go_wp2_with fail
  refine (HH.out _).mono ?_
  rintro e w4 ⟨hb4, A2, J2, rfl, hH2⟩
  have S4 : Hid (Below w3.heap.size w3 w4) := Lib.hid hb4
  clear hb4
  have H2 := Lib.hid hH2
  clear hH2
  go_wp2_with fail
  refine (HG.out _).mono ?_
  rintro e w5 ⟨hb5, L2, rfl, hL2⟩
  have S5 : Hid (Below w4.heap.size w4 w5) := Lib.hid hb5
  clear hb5
  have G2 := Lib.hid hL2
  clear hL2
  go_wp2_with fail
  refine (pull7 (H2.out.on S5.out) G2.out).mono ?_
  rintro e w6 ⟨hb6, rfl⟩
  have S6 : Hid (Below w5.heap.size w5 w6) := Lib.hid hb6
  clear hb6
  go_wp2_with fail
  refine (HH.out _).mono ?_
  rintro e w7 ⟨hb7, A3, J3, rfl, hH3⟩
  have S7 : Hid (Below w6.heap.size w6 w7) := Lib.hid (belowT (belowA (belowR w6) _) hb7)
  have BB : Hid (Blk w7 w6.heap.size 25 #[iv 175, iv 216]) := Lib.hid ((Blk.new w6 25 _).same (hb7.block _ (by simp)))
  clear hb7
  have H3 := Lib.hid hH3
  clear hH3
  go_wp2_with fail
  refine (HG.out _).mono ?_
  rintro e w8 ⟨hb8, L3, rfl, hL3⟩
  have S8 : Hid (Below w7.heap.size w7 w8) := Lib.hid hb8
  clear hb8
  have G3 := Lib.hid hL3
  clear hL3
  go_wp2_with fail
  refine (heaviest7 (H3.out.on S8.out) G3.out).mono ?_
  rintro e w9 ⟨hb9, R3, cp3, rfl, hR3⟩
  have S9 : Hid (Below w8.heap.size w8 w9) := Lib.hid hb9
  clear hb9
  have K3 := Lib.hid hR3
  clear hR3
  go_wp2_with fail
  refine (HH.out _).mono ?_
  rintro e w10 ⟨hb10, A4, J4, rfl, hH4⟩
  have S10 : Hid (Below w9.heap.size w9 w10) := Lib.hid hb10
  clear hb10
  have H4 := Lib.hid hH4
  clear hH4
  go_wp2_with fail
  refine (bad70 (ns := [0, 0, 1, 1]) (v := 1) (by decide) rfl val_bad0b (H4.out.on (belowA (belowR w10) _)) (newInts w10 [0, 0, 1, 1])).mono ?_
  rintro e w11 ⟨hb11, rfl⟩
  have S11 : Hid (Below w10.heap.size w10 w11) := Lib.hid (belowT (belowA (belowR w10) _) hb11)
  clear hb11
  go_wp2_with fail
  refine (HH.out _).mono ?_
  rintro e w12 ⟨hb12, A5, J5, rfl, hH5⟩
  have S12 : Hid (Below w11.heap.size w11 w12) := Lib.hid hb12
  clear hb12
  have H5 := Lib.hid hH5
  clear hH5
  go_wp2_with fail
  refine (HG.out _).mono ?_
  rintro e w13 ⟨hb13, L5, rfl, hL5⟩
  have S13 : Hid (Below w12.heap.size w12 w13) := Lib.hid hb13
  clear hb13
  have G5 := Lib.hid hL5
  clear hL5
  go_wp2_with fail
  refine (fewest7 (H5.out.on S13.out) G5.out).mono ?_
  rintro e w14 ⟨hb14, R5, cp5, rfl, hR5⟩
  have S14 : Hid (Below w13.heap.size w13 w14) := Lib.hid hb14
  clear hb14
  have K5 := Lib.hid hR5
  clear hR5
  go_wp2_with fail
  refine (HH.out _).mono ?_
  rintro e w15 ⟨hb15, A6, J6, rfl, hH6⟩
  have S15 : Hid (Below w14.heap.size w14 w15) := Lib.hid hb15
  clear hb15
  have H6 := Lib.hid hH6
  clear hH6
  go_wp2_with fail
  refine (winch7 (b := 2) (L := 390) (x := 234) (by decide) val_light2 (by decide) (by kernel_rfl) H6.out).mono ?_
  rintro e w16 ⟨hb16, rfl⟩
  have S16 : Hid (Below w15.heap.size w15 w16) := Lib.hid hb16
  clear hb16
  go_wp2_with fail
  refine (HH.out _).mono ?_
  rintro e w17 ⟨hb17, A7, J7, rfl, hH7⟩
  have S17 : Hid (Below w16.heap.size w16 w17) := Lib.hid hb17
  clear hb17
  have H7 := Lib.hid hH7
  clear hH7
  go_wp2_with fail
  refine (sand7 (b := 2) (L := 390) (x := 564) (by decide) val_light2 (by decide) (by kernel_rfl) H7.out).mono ?_
  rintro e w18 ⟨hb18, rfl⟩
  have S18 : Hid (Below w17.heap.size w17 w18) := Lib.hid hb18
  clear hb18
  go_wp2_with fail
  refine (HH.out _).mono ?_
  rintro e w19 ⟨hb19, A8, J8, rfl, hH8⟩
  have S19 : Hid (Below w18.heap.size w18 w19) := Lib.hid hb19
  clear hb19
  have H8 := Lib.hid hH8
  clear hH8
  go_wp2_with fail
  refine (pull75 H8.out).mono ?_
  rintro e w20 ⟨hb20, rfl⟩
  have S20 : Hid (Below w19.heap.size w19 w20) := Lib.hid hb20
  clear hb20
  go_wp2_with (refine HH.out _ ?_)
  obtain ⟨V, hV⟩ : ∃ V, (w20.alloc (.cells #[.int .i64 0, .int .i64 0] 25)) = V := ⟨_, rfl⟩
  have SV : Below w20.heap.size w20 V := by rw [← hV]; exact belowA (belowR _) _
  have bb := BB.out.same ((belowT (belowT (belowT (belowT (belowT (belowT (belowT (belowT (belowT (belowT (belowT (belowT (belowT S8.out S9.out) S10.out) S11.out) S12.out) S13.out) S14.out) S15.out) S16.out) S17.out) S18.out) S19.out) S20.out) SV).block _ BB.out.lt)
  have KK1 := Lib.hid fun (W : World) (hb : Below V.heap.size V W) => K1.out.on (belowT (belowT (belowT (belowT (belowT (belowT (belowT (belowT (belowT (belowT (belowT (belowT (belowT (belowT (belowT (belowT (belowT (belowT S4.out S5.out) S6.out) S7.out) S8.out) S9.out) S10.out) S11.out) S12.out) S13.out) S14.out) S15.out) S16.out) S17.out) S18.out) S19.out) S20.out) SV) hb)
  have KK3 := Lib.hid fun (W : World) (hb : Below V.heap.size V W) => K3.out.on (belowT (belowT (belowT (belowT (belowT (belowT (belowT (belowT (belowT (belowT (belowT (belowT S10.out S11.out) S12.out) S13.out) S14.out) S15.out) S16.out) S17.out) S18.out) S19.out) S20.out) SV) hb)
  have KK5 := Lib.hid fun (W : World) (hb : Below V.heap.size V W) => K5.out.on (belowT (belowT (belowT (belowT (belowT (belowT (belowT S15.out S16.out) S17.out) S18.out) S19.out) S20.out) SV) hb)
  obtain ⟨pb, hpb⟩ : ∃ b, w6.heap.size = b := ⟨_, rfl⟩
  rw [hpb] at bb
  have HC : Hid (∀ W, Below V.heap.size V W → W.cell? ⟨pb, 0, none⟩ = some (iv 175) ∧ W.cell? ⟨pb, 1, none⟩ = some (iv 216)) := Lib.hid fun W hb => ⟨keepC hb (bb.cell 0), keepC hb (bb.cell 1)⟩
  have HB0 := Lib.hid (belowT (belowT (belowT (belowT (belowT (belowT (belowT (belowT (belowT (belowT (belowT (belowT (belowT (belowT (belowT (belowT (belowT (belowT (belowT (belowT S1.out S2.out) S3.out) S4.out) S5.out) S6.out) S7.out) S8.out) S9.out) S10.out) S11.out) S12.out) S13.out) S14.out) S15.out) S16.out) S17.out) S18.out) S19.out) S20.out) SV)
  rw [hV, hpb]
  clear bb SV hV hpb
  simp only [List.append_eq, List.cons_append, List.nil_append]
  go_region_held3 (fun W => W.cell? ⟨pb, 0, none⟩ = some (iv 175) ∧ W.cell? ⟨pb, 1, none⟩ = some (iv 216)) (first | exact HC.out _ (belowDq (belowR V)) | exact HC.out _ HBc | exact HC.out _ (belowA HBc _)) (first | (go_at_call 38; (with_reducible refine (span_any _ _ _).mono ?_); rintro e wx ⟨rfl, hbx⟩; have HBc : Below V.heap.size V wx := by first | exact undrew0 hbx | exact belowT HBc hbx | exact belowT (belowA HBc _) hbx) | (go_at_call 21; (with_reducible refine (spansSame R1 (some ⟨wx.heap.size, 0, none⟩) [(100, 120), (200, 220), (50, 60), (300, 310)] cp1 4 _ (KK1.out _ (belowA HBc _)) (newSp wx 100 120 200 220 50 60 300 310) rfl).mono ?_); rintro e wx ⟨rfl, hbx⟩; have HBc : Below V.heap.size V wx := by first | exact belowT (belowA HBc _) hbx | exact undrew0 hbx | exact belowT HBc hbx) | (go_at_call 27; (with_reducible refine (intsSame R3 (some ⟨wx.heap.size, 0, none⟩) [100, 200, 50, 310] cp3 4 _ (KK3.out _ (belowA HBc _)) (newI wx 100 200 50 310) rfl).mono ?_); rintro e wx ⟨rfl, hbx⟩; have HBc : Below V.heap.size V wx := by first | exact belowT (belowA HBc _) hbx | exact undrew0 hbx | exact belowT HBc hbx) | (go_at_call 27; (with_reducible refine (intsSame R5 (some ⟨wx.heap.size, 0, none⟩) [0, 0, 1, 1] cp5 4 _ (KK5.out _ (belowA HBc _)) (newI wx 0 0 1 1) rfl).mono ?_); rintro e wx ⟨rfl, hbx⟩; have HBc : Below V.heap.size V wx := by first | exact belowT (belowA HBc _) hbx | exact undrew0 hbx | exact belowT HBc hbx))
  go_wp2_with fail
  go_ret
  exact ⟨rfl, belowT HB0.out HBc⟩
end Go.Proofs.Ytojgdallodmanaa
