/- Any: a cut of a hull, by turns. Sets that hang together, and finer cuts: the plain law. No program is named here. -/
import Derived.Test.YtojgdallodmanaaZ4e1a07
import Derived.Test.YtojgdallodmanaaZ872d06
import Derived.Test.YtojgdallodmanaaZ0dff73
namespace Go.Proofs.Ytojgdallodmanaa
open Go.RowKit

abbrev u8v (n : Nat) : Value := .int .u8 (n : Int)
theorem many_app {q : List Nat} {x : Nat} : ∀ k, k ≤ q.length → manyTo (q ++ [x]) k = manyTo q k := by
  intro k
  induction k with
  | zero => intro _; rfl
  | succ k ih =>
    intro hk
    rw [manyTo, manyTo, List.getElem?_append_left (by omega), ih (by omega)]
theorem many_snoc (q : List Nat) (x : Nat) : manyTo (q ++ [x]) (q.length + 1) = max (manyTo q q.length) (x + 1) := by
  rw [manyTo, List.getElem?_append_right (Nat.le_refl _), Nat.sub_self, many_app _ (Nat.le_refl _)]
  rfl
theorem grow_snoc : ∀ (q : List Nat) (next x : Nat), grow next (q ++ [x]) = true ↔ grow next q = true ∧ x ≤ q.foldl (fun m y => max m (y + 1)) next := by
  intro q
  induction q with
  | nil => intro next x; simp [grow]
  | cons y q ih => intro next x; simp only [List.cons_append, grow, List.foldl_cons, Bool.and_eq_true, decide_eq_true_eq, ih, and_assoc]
theorem many_fold (q : List Nat) : manyTo q q.length = q.foldl (fun m y => max m (y + 1)) 0 := by
  have key : ∀ n, n ≤ q.length → manyTo q n = (q.take n).foldl (fun m y => max m (y + 1)) 0 := by
    intro n
    induction n with
    | zero => intro _; simp [manyTo]
    | succ n ih =>
      intro hn
      have hx := List.getElem?_eq_getElem (show n < q.length by omega)
      rw [manyTo, hx, List.take_succ_eq_append_getElem (by omega), List.foldl_append, ih (by omega)]
      rfl
  rw [key _ (Nat.le_refl _), List.take_length]
theorem grow_push {q : List Nat} {x : Nat} (h : grow 0 q = true) (hx : x ≤ manyTo q q.length) : grow 0 (q ++ [x]) = true := by
  rw [grow_snoc, ← many_fold]
  exact ⟨h, hx⟩
theorem many_len {q : List Nat} (h : grow 0 q = true) : manyTo q q.length ≤ q.length := by
  have := grow_le_k h q.length (Nat.le_refl _)
  rw [many_pad _ (Nat.le_refl _)] at this
  exact this

set_option maxRecDepth 100000 in
set_option maxHeartbeats 1000000 in
theorem any51_any (h : Hul) (A J : Option Addr) (B cap capJ : Nat) (X : Option Addr) (os : List Nat) (c2 : Nat) (w : World) (hn8 : h.ps.length ≤ 8) (hX : Rd1 u8v w B X os) (hol : os.length ≤ maxLen) (hos : ∀ x ∈ os, x < 256) (hB : B ≤ w.heap.size) :
    Calls Try.prog 51 #[hv h A cap J capJ, .slice X os.length c2] w fun e w' => Below w.heap.size w w' ∧ ∃ q : List Nat, q.length = h.ps.length ∧ grow 0 q = true ∧ ∃ A9 c9, e = .returned (.slice A9 h.ps.length c9) ∧ w'.ownsRow w.heap.size 3 1 (.slice A9 h.ps.length c9) h.ps.length (q.map nv) := by
  obtain ⟨i3, hi3, hz30, hz31, hz32⟩ := info_parts Try.info3
  obtain ⟨W1, hW1, hb0, hzz, p0, p1, p2, p3, p4⟩ := hulBox w h A cap J capJ
  have HB0 := Lib.hid hb0
  have HX := Lib.hid (hX.below hb0 hB)
  have HOS := Lib.hid hos
  have hBz := Nat.le_trans hB hb0.size
  have hol2 : os.length ≤ 9223372036854775807 := by unfold maxLen at hol; omega
  have HK : Hid (∀ W, Below W1.heap.size W1 W → W.cell? ⟨w.heap.size, 0, none⟩ = some (.slice A h.ps.length cap)) := Lib.hid fun W hb => keepC hb p0
  clear hb0 hX hos hzz
  go_enter Try.func51, Try.ntmps51
  go_wp2_with fail
  clear hW1 p0 p1 p2 p3 p4
  go_loopw [5, 6, 7] (fun vo vn vi wr => ∃ (k : Nat) (q : List Nat) (A9 : Option Addr) (c9 m : Nat), k ≤ h.ps.length ∧ vi = .int .i64 k ∧ vn = .int .i64 m ∧ m ≤ k ∧ vo = .slice A9 k c9 ∧ Hid (q.length = k ∧ grow 0 q = true ∧ manyTo q q.length = m) ∧ Hid (wr.ownsRow W1.heap.size 3 1 (.slice A9 k c9) k (q.map nv)) ∧ Hid (Below W1.heap.size W1 wr)) (fun _ _ vi _ => h.ps.length - (intOf vi).toNat)
  case atStart => exact ⟨0, [], none, 0, 0, Nat.zero_le _, rfl, rfl, Nat.le_refl _, rfl, Lib.hid ⟨rfl, rfl, rfl⟩, Lib.hid (World.ownsRow_nil _ _ _ _), Lib.hid (belowR _)⟩
  case round =>
    obtain ⟨k, q, A9, c9, m, hk, rfl, rfl, hmk, rfl, HG, HO, HBR⟩ := hrel
    have p0 := HK.out wr HBR.out
    by_cases hlt : k < h.ps.length
    · have hkz : (k : Int) < (h.ps.length : Int) := by omega
      have HEND : Hid (∀ x, x ≤ m → (q ++ [x]).length = k + 1 ∧ grow 0 (q ++ [x]) = true ∧ manyTo (q ++ [x]) (q ++ [x]).length = max m (x + 1)) := Lib.hid fun x hx => by
        obtain ⟨a, b, c⟩ := HG.out
        exact ⟨by rw [List.length_append, a]; rfl, grow_push b (by omega), by rw [List.length_append]; exact (many_snoc q x).trans (by rw [c])⟩
      have APP : Hid (∀ (x : Nat) (v6 : Value) (w6 : World), w6.ownsRow W1.heap.size 3 1 v6 (k + 1) (q.map nv ++ [nv x]) → ∃ A10 c10, v6 = .slice A10 (k + 1) c10 ∧ w6.ownsRow W1.heap.size 3 1 (.slice A10 (k + 1) c10) (k + 1) ((q ++ [x]).map nv)) := Lib.hid fun x v6 w6 ho => by
        have ho : w6.ownsRow W1.heap.size 3 1 v6 (k + 1) ((q ++ [x]).map nv) := by rw [List.map_append]; exact ho
        have hl : (q ++ [x]).length = k + 1 := by rw [List.length_append, HG.out.1]; rfl
        have ho2 := ho
        rw [← hl] at ho2
        obtain ⟨A10, c10, e, _, _⟩ := own_rd1 ho2
        rw [hl] at e
        exact ⟨A10, c10, e, by rw [← e]; exact ho⟩
      by_cases hl0 : 0 < os.length
      · have hrl : k % os.length < os.length := Nat.mod_lt k hl0
        obtain ⟨x, hx⟩ : ∃ x, os[k % os.length]? = some x := ⟨_, List.getElem?_eq_getElem hrl⟩
        have hx256 := HOS.out x (List.mem_of_getElem? hx)
        obtain ⟨b1, o1, rfl, hb1, c1⟩ := (HX.out.below HBR.out hBz) (k % os.length) x hx
        obtain ⟨y, hy⟩ : ∃ y, x % (m + 1) = y := ⟨_, rfl⟩
        have hym : y ≤ m := by have := Nat.mod_lt x (show m + 1 > 0 by omega); omega
        have hmod2 : (x : Int) % ((m : Int) + 1) = (y : Int) := by rw [← hy]; simp
        have hgt : (0 : Int) < (os.length : Int) := by omega
        have hnz : ((os.length : Int) == 0) = false := by rw [beq_eq_false_iff_ne]; omega
        clear hx hy
        rcases Nat.lt_or_ge y m with hym2 | hym2
        case inr =>
          obtain rfl : y = m := by omega
          have hce : ((y : Int) == (y : Int)) = true := by simp
          have HE := Lib.hid (HEND.out y (by omega))
          have HAL := Lib.hid (HO.out.alloc (.cells #[.int .i64 (y : Int)] 3))
          clear HEND
          go_wp2_with (at_builtin; refine wpList_append_own _ rfl _ _ 40 rfl W1.heap.size 3 i3 (.int .i64 0) 1 8 Try.underlying40 hi3 hz30 hz31 hz32 rfl (by decide) _ _ _ rfl HAL.out ⟨wr.heap.size, 0, none⟩ 1 1 [.int .i64 (y : Int)] rfl rfl ?d1 ?d2 ?d3 ?d4 ?d5 ?_)
          case d1 => exact one_new _ _ _
          case d2 => simp [Value.oneCell']
          case d3 => unfold maxLen; omega
          case d4 => omega
          case d5 => have := HBR.out.size; (try simp only [World.size_alloc]); omega
          intro v6 w6 hown6 hg6 _
          have hb6 : Below W1.heap.size W1 w6 := grownB HAL.out hg6 (Nat.le_refl _) (belowA HBR.out _)
          obtain ⟨A10, c10, rfl, hw10⟩ := APP.out y v6 w6 hown6
          have HB6 := Lib.hid hb6
          have HW := Lib.hid hw10
          clear hown6 hg6 hb6 hw10
          go_wp2_with fail
          go_roundw
          case rel => exact ⟨k + 1, q ++ [y], A10, c10, y + 1, by omega, by go_num, by go_num, by omega, rfl, Lib.hid (by have h3 := HE.out.2.2; refine ⟨HE.out.1, HE.out.2.1, by rw [h3]; omega⟩), HW, HB6⟩
          case measure => simp [intOf]; omega
        case inl =>
          have hce : ((y : Int) == (m : Int)) = false := by rw [beq_eq_false_iff_ne]; omega
          have HE := Lib.hid (HEND.out y (by omega))
          have HAL := Lib.hid (HO.out.alloc (.cells #[.int .i64 (y : Int)] 3))
          clear HEND
          go_wp2_with (at_builtin; refine wpList_append_own _ rfl _ _ 40 rfl W1.heap.size 3 i3 (.int .i64 0) 1 8 Try.underlying40 hi3 hz30 hz31 hz32 rfl (by decide) _ _ _ rfl HAL.out ⟨wr.heap.size, 0, none⟩ 1 1 [.int .i64 (y : Int)] rfl rfl ?d1 ?d2 ?d3 ?d4 ?d5 ?_)
          case d1 => exact one_new _ _ _
          case d2 => simp [Value.oneCell']
          case d3 => unfold maxLen; omega
          case d4 => omega
          case d5 => have := HBR.out.size; (try simp only [World.size_alloc]); omega
          intro v6 w6 hown6 hg6 _
          have hb6 : Below W1.heap.size W1 w6 := grownB HAL.out hg6 (Nat.le_refl _) (belowA HBR.out _)
          obtain ⟨A10, c10, rfl, hw10⟩ := APP.out y v6 w6 hown6
          have HB6 := Lib.hid hb6
          have HW := Lib.hid hw10
          clear hown6 hg6 hb6 hw10
          go_wp2_with fail
          go_roundw
          case rel => exact ⟨k + 1, q ++ [y], A10, c10, m, by omega, by go_num, by go_num, by omega, rfl, Lib.hid (by have h3 := HE.out.2.2; refine ⟨HE.out.1, HE.out.2.1, by rw [h3]; omega⟩), HW, HB6⟩
          case measure => simp [intOf]; omega
      · have hgt : ¬ (0 : Int) < (os.length : Int) := by omega
        have hgt2 : decide ((0 : Int) < (os.length : Int)) = false := decide_eq_false hgt
        rcases Nat.eq_zero_or_pos m with hm0 | hm0
        case inl =>
          subst hm0
          have hce : ((0 : Int) == (0 : Int)) = true := by simp
          have HE := Lib.hid (HEND.out 0 (by omega))
          have HAL := Lib.hid (HO.out.alloc (.cells #[.int .i64 (0 : Int)] 3))
          clear HEND
          go_wp2_with (at_builtin; refine wpList_append_own _ rfl _ _ 40 rfl W1.heap.size 3 i3 (.int .i64 0) 1 8 Try.underlying40 hi3 hz30 hz31 hz32 rfl (by decide) _ _ _ rfl HAL.out ⟨wr.heap.size, 0, none⟩ 1 1 [.int .i64 (0 : Int)] rfl rfl ?d1 ?d2 ?d3 ?d4 ?d5 ?_)
          case d2 => simp [Value.oneCell']
          case d3 => unfold maxLen; omega
          case d4 => omega
          case d5 => have := HBR.out.size; (try simp only [World.size_alloc]); omega
          intro v6 w6 hown6 hg6 _
          have hb6 : Below W1.heap.size W1 w6 := grownB HAL.out hg6 (Nat.le_refl _) (belowA HBR.out _)
          obtain ⟨A10, c10, rfl, hw10⟩ := APP.out 0 v6 w6 hown6
          have HB6 := Lib.hid hb6
          have HW := Lib.hid hw10
          clear hown6 hg6 hb6 hw10
          go_wp2_with fail
          go_roundw
          case rel => exact ⟨k + 1, q ++ [0], A10, c10, 0 + 1, by omega, by go_num, by go_num, by omega, rfl, Lib.hid (by have h3 := HE.out.2.2; refine ⟨HE.out.1, HE.out.2.1, by rw [h3]; omega⟩), HW, HB6⟩
          case measure => simp [intOf]; omega
        case inr =>
          have hz1 : ¬ m = 0 := by omega
          have hz2 : ¬ (m : Int) = 0 := by omega
          have hz3 : ((m : Int) == 0) = false := by rw [beq_eq_false_iff_ne]; omega
          have hce : ((0 : Int) == (m : Int)) = false := by rw [beq_eq_false_iff_ne]; omega
          have HE := Lib.hid (HEND.out 0 (by omega))
          have HAL := Lib.hid (HO.out.alloc (.cells #[.int .i64 (0 : Int)] 3))
          clear HEND
          go_wp2_with (at_builtin; refine wpList_append_own _ rfl _ _ 40 rfl W1.heap.size 3 i3 (.int .i64 0) 1 8 Try.underlying40 hi3 hz30 hz31 hz32 rfl (by decide) _ _ _ rfl HAL.out ⟨wr.heap.size, 0, none⟩ 1 1 [.int .i64 (0 : Int)] rfl rfl ?d1 ?d2 ?d3 ?d4 ?d5 ?_)
          case d2 => simp [Value.oneCell']
          case d3 => unfold maxLen; omega
          case d4 => omega
          case d5 => have := HBR.out.size; (try simp only [World.size_alloc]); omega
          intro v6 w6 hown6 hg6 _
          have hb6 : Below W1.heap.size W1 w6 := grownB HAL.out hg6 (Nat.le_refl _) (belowA HBR.out _)
          obtain ⟨A10, c10, rfl, hw10⟩ := APP.out 0 v6 w6 hown6
          have HB6 := Lib.hid hb6
          have HW := Lib.hid hw10
          clear hown6 hg6 hb6 hw10
          go_wp2_with fail
          go_roundw
          case rel => exact ⟨k + 1, q ++ [0], A10, c10, m, by omega, by go_num, by go_num, by omega, rfl, Lib.hid (by have h3 := HE.out.2.2; refine ⟨HE.out.1, HE.out.2.1, by rw [h3]; omega⟩), HW, HB6⟩
          case measure => simp [intOf]; omega
    · obtain rfl : k = h.ps.length := by omega
      go_wp2_with fail
      go_ret
      exact ⟨belowT HB0.out HBR.out, q, HG.out.1, HG.out.2.1, A9, c9, rfl, own_base HO.out HB0.out.size⟩
end Go.Proofs.Ytojgdallodmanaa

namespace Go.Proofs.Ytojgdallodmanaa
open Go.RowKit

def subB (a b : Nat) : Prop := ∀ i, a.testBit i = true → b.testBit i = true
theorem subB.eq {a b : Nat} (h : subB a b) (k : subB b a) : a = b := Nat.eq_of_testBit_eq fun i => by
  cases e : a.testBit i with
  | true => rw [h i e]
  | false =>
    cases e2 : b.testBit i with
    | false => rfl
    | true => rw [k i e2] at e; cases e
section
variable {s x y m F : Nat} {j : Int × Int} {js js' : List (Int × Int)}
theorem hstep_grow : subB x (hstep s x j) := fun i hi => by
  unfold hstep
  split
  · rw [Nat.testBit_or, hi]; rfl
  · exact hi
theorem hstep_mono (h : subB x y) : subB (hstep s x j) (hstep s y j) := fun i hi => by
  unfold hstep at hi ⊢
  split at hi
  · rename_i hc
    have hy : pairN j &&& y ≠ 0 := by
      obtain ⟨k, hk⟩ := Nat.exists_testBit_of_ne_zero hc.2
      rw [Nat.testBit_and, Bool.and_eq_true] at hk
      intro h0
      have : (pairN j &&& y).testBit k = true := by rw [Nat.testBit_and, hk.1, h k hk.2]; rfl
      rw [h0] at this
      simp at this
    rw [if_pos ⟨hc.1, hy⟩]
    rw [Nat.testBit_or, Bool.or_eq_true] at hi ⊢
    exact hi.elim (fun a => .inl (h i a)) .inr
  · have := h i hi
    split
    · rw [Nat.testBit_or, this]; rfl
    · exact this
theorem hstep_in (h : subB x s) : subB (hstep s x j) s := fun i hi => by
  unfold hstep at hi
  split at hi
  · rename_i hc
    rw [Nat.testBit_or, Bool.or_eq_true] at hi
    rcases hi with hi | hi
    · exact h i hi
    · have e := congrArg (fun z => z.testBit i) hc.1
      simp only [Nat.testBit_and, hi, Bool.true_and] at e
      exact e
  · exact h i hi
theorem hround_mono : ∀ (js : List (Int × Int)) {x y : Nat}, subB x y → subB (hround js s x) (hround js s y) := by
  intro js
  induction js with
  | nil => intro x y h; exact h
  | cons j js ih => intro x y h; exact ih (hstep_mono h)
theorem hround_in : ∀ (js : List (Int × Int)) {x : Nat}, subB x s → subB (hround js s x) s := by
  intro js
  induction js with
  | nil => intro x h; exact h
  | cons j js ih => intro x h; exact ih (hstep_in h)
theorem hround_grow : ∀ (js : List (Int × Int)) {x : Nat}, subB x (hround js s x) := by
  intro js
  induction js with
  | nil => intro x i h; exact h
  | cons j js ih => intro x i h; exact ih i (hstep_grow i h)
theorem hround_fix : hround js s F = F ↔ ∀ j ∈ js, hstep s F j = F := by
  induction js with
  | nil => exact ⟨fun _ j hj => (by cases hj), fun _ => rfl⟩
  | cons k js ih =>
    constructor
    · intro h
      have h1 : hround (k :: js) s F = hround js s (hstep s F k) := rfl
      rw [h1] at h
      have h2 := hstep_ge s F k
      have h3 := fold_ge s js (hstep s F k)
      have h4 : hstep s F k = F := by
        have : js.foldl (hstep s) (hstep s F k) = F := h
        omega
      rw [h4] at h
      intro j hj
      rcases List.mem_cons.1 hj with rfl | hj
      · exact h4
      · exact (ih.1 h) j hj
    · intro h
      have h1 : hround (k :: js) s F = hround js s (hstep s F k) := rfl
      rw [h1, h k (List.mem_cons_self ..)]
      exact ih.2 fun j hj => h j (List.mem_cons_of_mem _ hj)
theorem hangF_into : ∀ (f m : Nat), hangF js s f m = true → hround js s F = F → subB m F → subB s F := by
  intro f
  induction f with
  | zero => intro m h; cases h
  | succ f ih =>
    intro m h hF hm
    rw [hangF_eq] at h
    split at h
    · rw [← beq_iff_eq.1 h]; exact hm
    · refine ih _ h hF ?_
      have := hround_mono (s := s) js hm
      rw [hF] at this
      exact this
theorem hangF_stop {n : Nat} (hj : JsOk n js) (hn : n ≤ 8) : ∀ (f m : Nat), 257 ≤ f + m → m < 256 → subB m s → hangF js s f m = false → ∃ F, hround js s F = F ∧ subB m F ∧ subB F s ∧ F ≠ s := by
  intro f
  induction f with
  | zero => intro m h1 h2; omega
  | succ f ih =>
    intro m h1 h2 h3 h
    rw [hangF_eq] at h
    split at h
    · rename_i hc
      refine ⟨m, hc, fun i hi => hi, h3, fun e => ?_⟩
      rw [e] at h
      simp at h
    · rename_i hc
      have hlt : hround js s m < 256 := fold_lt hn s js m hj h2
      have hge : m ≤ hround js s m := fold_ge s js m
      obtain ⟨F, a, b, c, d⟩ := ih (hround js s m) (by omega) hlt (hround_in js h3) h
      exact ⟨F, a, fun i hi => b i (hround_grow js i hi), c, d⟩
/-- With more joints a set still hangs together. -/
theorem hangs_mono {n : Nat} (hj : JsOk n js') (hn : n ≤ 8) (hs : s < 256) (hsub : ∀ j ∈ js, j ∈ js') (h : hangsB js s = true) : hangsB js' s = true := by
  cases e : hangsB js' s with
  | true => rfl
  | false =>
    have hm : subB (s &&& (256 - s)) s := fun i hi => by rw [Nat.testBit_and, Bool.and_eq_true] at hi; exact hi.1
    have hl : s &&& (256 - s) < 256 := Nat.lt_of_le_of_lt Nat.and_le_left hs
    obtain ⟨F, a, b, c, d⟩ := hangF_stop hj hn 257 _ (by omega) hl hm e
    have hF : hround js s F = F := hround_fix.2 fun j hj => (hround_fix.1 a) j (hsub j hj)
    exact absurd (c.eq (hangF_into 257 _ h hF b)) d
end
/-! The parts of a block. -/
theorem blk_bit (C : List Nat) : ∀ k, ∀ j, j < 8 → ∀ i, (blkAt C k j).testBit i = (decide (i < k) && decide (C[i]? = some j)) := by
  intro k
  induction k with
  | zero =>
    intro j hj i
    have : (List.replicate 8 0)[j]? = some 0 := by rw [List.getElem?_replicate, if_pos hj]
    unfold blkAt
    rw [blkTo, this]
    simp
  | succ k ih =>
    intro j hj i
    have ihj := ih j hj i
    unfold blkAt at ihj ⊢
    rw [blkTo]
    cases hk : C[k]? with
    | none =>
      simp only
      rw [ihj]
      rcases Nat.lt_trichotomy i k with h1 | h1 | h1
      · simp [h1, show i < k + 1 by omega]
      · subst h1; simp [hk]
      · simp [show ¬ i < k by omega, show ¬ i < k + 1 by omega]
    | some m =>
      simp only
      have hl := blkTo_len C k
      by_cases hmj : m = j
      · subst hmj
        rw [List.getElem?_set_self (by omega), Option.getD_some, Nat.testBit_or, ihj, Nat.testBit_two_pow]
        rcases Nat.lt_trichotomy i k with h1 | h1 | h1
        · simp [h1, show i < k + 1 by omega, show ¬ k = i by omega]
        · subst h1; simp [hk]
        · simp [show ¬ i < k by omega, show ¬ i < k + 1 by omega, show ¬ k = i by omega]
      · rw [List.getElem?_set_ne hmj, ihj]
        rcases Nat.lt_trichotomy i k with h1 | h1 | h1
        · simp [h1, show i < k + 1 by omega]
        · subst h1; simp [hk, hmj]
        · simp [show ¬ i < k by omega, show ¬ i < k + 1 by omega]
section
variable {h : Hul} {l : List Wgh} {N : List Nd}
/-- A set with fewer parts is no heavier. -/
theorem most_sub (hp : openPre h l = 0) (hf : Feas h l) (hN : IsTree h l N) {a b : Nat} (ha : a < 2 ^ h.ps.length) (hb : b < 2 ^ h.ps.length) (hs : subB a b) : mostV h N a ≤ mostV h N b := by
  have ia := mostV_is hp hN hf ha
  have ib := mostV_is hp hN hf hb
  obtain ⟨w, hw, e⟩ := ia.2
  have h1 := ib.1 w hw
  have hps := (pre_right hp).ps
  have key : ∀ k, k ≤ 8 → sumTo w (fun i => a.testBit i) k ≤ sumTo w (fun i => b.testBit i) k := by
    intro k
    induction k with
    | zero => intro _; exact Int.le_refl _
    | succ k ih =>
      intro hk
      have := ih (by omega)
      rw [sumTo, sumTo]
      cases ea : a.testBit k with
      | true =>
        rw [hs k ea]
        simp only [if_true]
        omega
      | false =>
        simp only [Bool.false_eq_true, if_false]
        cases eb : b.testBit k with
        | false => simpa using this
        | true =>
          have hkn := bit_lt hb eb
          have h2 := hw.1 k h.ps[k] (List.getElem?_eq_getElem hkn)
          have h3 := hps h.ps[k] (List.getElem_mem hkn)
          simp only [if_true]
          omega
  have := key 8 (Nat.le_refl _)
  unfold sumS sumP at e h1
  omega
theorem pad_getElem {q : List Nat} {i x : Nat} (hx : x ∈ pad q → True) (hi : i < q.length) : (pad q)[i]? = q[i]? := by
  have _ := hx
  unfold pad
  rw [List.getElem?_append_left hi]
/-- Each block of a finer cut is a part of a block of the other one. -/
theorem fine_sub {q f : List Nat} {n : Nat} (hq : q.length = n) (hf : f.length = n) (hfine : ∀ a b, a < n → b < n → f[a]? = f[b]? → q[a]? = q[b]?) {j : Nat} (hj : j < 8) {i : Nat} (hi : i < n) (hji : f[i]? = some j) {c : Nat} (hc : c < 8) (hqi : q[i]? = some c) : subB (blkAt (pad f) n j) (blkAt (pad q) n c) := fun k hk => by
  rw [blk_bit _ _ _ hj] at hk
  rw [blk_bit _ _ _ hc]
  simp only [Bool.and_eq_true, decide_eq_true_eq] at hk ⊢
  refine ⟨hk.1, ?_⟩
  have e1 : (pad f)[k]? = f[k]? := by unfold pad; rw [List.getElem?_append_left (by omega)]
  have e2 : (pad q)[k]? = q[k]? := by unfold pad; rw [List.getElem?_append_left (by omega)]
  rw [e1] at hk
  rw [e2, hfine k i hk.1 hi (by rw [hk.2, hji]), hqi]
/-- Every number below how many there are is there. -/
theorem grow_has {f : List Nat} (hg : grow 0 f = true) : ∀ k, k ≤ f.length → ∀ j, j < manyTo f k → ∃ i, i < k ∧ f[i]? = some j := by
  intro k
  induction k with
  | zero => intro _ j hj; simp [manyTo] at hj
  | succ k ih =>
    intro hk j hj
    obtain ⟨x, hx⟩ : ∃ x, f[k]? = some x := ⟨_, List.getElem?_eq_getElem (by omega)⟩
    have hxm := (grow_drop f _ k x (grow_many hg k (by omega)) hx).1
    rw [many_pad _ (by omega)] at hxm
    rw [manyTo, hx] at hj
    simp only at hj
    rcases Nat.lt_or_ge j (manyTo f k) with h1 | h1
    · obtain ⟨i, hi, he⟩ := ih (by omega) j h1
      exact ⟨i, by omega, he⟩
    · exact ⟨k, by omega, by rw [hx]; congr 1; omega⟩
end
end Go.Proofs.Ytojgdallodmanaa
