/- Any: a cut of a hull, by turns. -/
import Derived.Test.YtojgdallodmanaaZ872d06
import Derived.Test.YtojgdallodmanaaZ49bf15
namespace Go.Proofs.Ytojgdallodmanaa
open Go.RowKit

abbrev u8v (n : Nat) : Value := .int .u8 (n : Int)
theorem many_app {q : List Nat} {x : Nat} : ∀ k, k ≤ q.length → manyTo (q ++ [x]) k = manyTo q k := by
  intro k
  induction k with
  | zero => intro _; rfl
  | succ k ih =>
    intro hk
    rw [manyTo, manyTo, List.getElem?_append_left (by omega), ih (by omega)]
theorem many_snoc (q : List Nat) (x : Nat) : manyTo (q ++ [x]) (q.length + 1) = max (manyTo q q.length) (x + 1) := by
  rw [manyTo, List.getElem?_append_right (Nat.le_refl _), Nat.sub_self, many_app _ (Nat.le_refl _)]
  rfl
theorem grow_snoc : ∀ (q : List Nat) (next x : Nat), grow next (q ++ [x]) = true ↔ grow next q = true ∧ x ≤ q.foldl (fun m y => max m (y + 1)) next := by
  intro q
  induction q with
  | nil => intro next x; simp [grow]
  | cons y q ih => intro next x; simp only [List.cons_append, grow, List.foldl_cons, Bool.and_eq_true, decide_eq_true_eq, ih, and_assoc]
theorem many_fold (q : List Nat) : manyTo q q.length = q.foldl (fun m y => max m (y + 1)) 0 := by
  have key : ∀ n, n ≤ q.length → manyTo q n = (q.take n).foldl (fun m y => max m (y + 1)) 0 := by
    intro n
    induction n with
    | zero => intro _; simp [manyTo]
    | succ n ih =>
      intro hn
      have hx := List.getElem?_eq_getElem (show n < q.length by omega)
      rw [manyTo, hx, List.take_succ_eq_append_getElem (by omega), List.foldl_append, ih (by omega)]
      rfl
  rw [key _ (Nat.le_refl _), List.take_length]
theorem grow_push {q : List Nat} {x : Nat} (h : grow 0 q = true) (hx : x ≤ manyTo q q.length) : grow 0 (q ++ [x]) = true := by
  rw [grow_snoc, ← many_fold]
  exact ⟨h, hx⟩
theorem many_len {q : List Nat} (h : grow 0 q = true) : manyTo q q.length ≤ q.length := by
  have := grow_le_k h q.length (Nat.le_refl _)
  rw [many_pad _ (Nat.le_refl _)] at this
  exact this

set_option maxRecDepth 100000 in
set_option maxHeartbeats 1000000 in
theorem any51_any (h : Hul) (A J : Option Addr) (B cap capJ : Nat) (X : Option Addr) (os : List Nat) (c2 : Nat) (w : World) (hn8 : h.ps.length ≤ 8) (hX : Rd1 u8v w B X os) (hol : os.length ≤ maxLen) (hos : ∀ x ∈ os, x < 256) (hB : B ≤ w.heap.size) :
    Calls Try.prog 51 #[hv h A cap J capJ, .slice X os.length c2] w fun e w' => Below w.heap.size w w' ∧ ∃ q : List Nat, q.length = h.ps.length ∧ grow 0 q = true ∧ ∃ A9 c9, e = .returned (.slice A9 h.ps.length c9) ∧ w'.ownsRow w.heap.size 3 1 (.slice A9 h.ps.length c9) h.ps.length (q.map nv) := by
  obtain ⟨i3, hi3, hz30, hz31, hz32⟩ := info_parts Try.info3
  obtain ⟨W1, hW1, hb0, hzz, p0, p1, p2, p3, p4⟩ := hulBox w h A cap J capJ
  have HB0 := Lib.hid hb0
  have HX := Lib.hid (hX.below hb0 hB)
  have HOS := Lib.hid hos
  have hBz := Nat.le_trans hB hb0.size
  have hol2 : os.length ≤ 9223372036854775807 := by unfold maxLen at hol; omega
  have HK : Hid (∀ W, Below W1.heap.size W1 W → W.cell? ⟨w.heap.size, 0, none⟩ = some (.slice A h.ps.length cap)) := Lib.hid fun W hb => keepC hb p0
  clear hb0 hX hos hzz
  go_enter Try.func51, Try.ntmps51
  go_wp2_with fail
  clear hW1 p0 p1 p2 p3 p4
  go_loopw [5, 6, 7] (fun vo vn vi wr => ∃ (k : Nat) (q : List Nat) (A9 : Option Addr) (c9 m : Nat), k ≤ h.ps.length ∧ vi = .int .i64 k ∧ vn = .int .i64 m ∧ m ≤ k ∧ vo = .slice A9 k c9 ∧ Hid (q.length = k ∧ grow 0 q = true ∧ manyTo q q.length = m) ∧ Hid (wr.ownsRow W1.heap.size 3 1 (.slice A9 k c9) k (q.map nv)) ∧ Hid (Below W1.heap.size W1 wr)) (fun _ _ vi _ => h.ps.length - (intOf vi).toNat)
  case atStart => exact ⟨0, [], none, 0, 0, Nat.zero_le _, rfl, rfl, Nat.le_refl _, rfl, Lib.hid ⟨rfl, rfl, rfl⟩, Lib.hid (World.ownsRow_nil _ _ _ _), Lib.hid (belowR _)⟩
  case round =>
    obtain ⟨k, q, A9, c9, m, hk, rfl, rfl, hmk, rfl, HG, HO, HBR⟩ := hrel
    have p0 := HK.out wr HBR.out
    by_cases hlt : k < h.ps.length
    · have hkz : (k : Int) < (h.ps.length : Int) := by omega
      have HEND : Hid (∀ x, x ≤ m → (q ++ [x]).length = k + 1 ∧ grow 0 (q ++ [x]) = true ∧ manyTo (q ++ [x]) (q ++ [x]).length = max m (x + 1)) := Lib.hid fun x hx => by
        obtain ⟨a, b, c⟩ := HG.out
        exact ⟨by rw [List.length_append, a]; rfl, grow_push b (by omega), by rw [List.length_append]; exact (many_snoc q x).trans (by rw [c])⟩
      have APP : Hid (∀ (x : Nat) (v6 : Value) (w6 : World), w6.ownsRow W1.heap.size 3 1 v6 (k + 1) (q.map nv ++ [nv x]) → ∃ A10 c10, v6 = .slice A10 (k + 1) c10 ∧ w6.ownsRow W1.heap.size 3 1 (.slice A10 (k + 1) c10) (k + 1) ((q ++ [x]).map nv)) := Lib.hid fun x v6 w6 ho => by
        have ho : w6.ownsRow W1.heap.size 3 1 v6 (k + 1) ((q ++ [x]).map nv) := by rw [List.map_append]; exact ho
        have hl : (q ++ [x]).length = k + 1 := by rw [List.length_append, HG.out.1]; rfl
        have ho2 := ho
        rw [← hl] at ho2
        obtain ⟨A10, c10, e, _, _⟩ := own_rd1 ho2
        rw [hl] at e
        exact ⟨A10, c10, e, by rw [← e]; exact ho⟩
      by_cases hl0 : 0 < os.length
      · have hrl : k % os.length < os.length := Nat.mod_lt k hl0
        obtain ⟨x, hx⟩ : ∃ x, os[k % os.length]? = some x := ⟨_, List.getElem?_eq_getElem hrl⟩
        have hx256 := HOS.out x (List.mem_of_getElem? hx)
        obtain ⟨b1, o1, rfl, hb1, c1⟩ := (HX.out.below HBR.out hBz) (k % os.length) x hx
        obtain ⟨y, hy⟩ : ∃ y, x % (m + 1) = y := ⟨_, rfl⟩
        have hym : y ≤ m := by have := Nat.mod_lt x (show m + 1 > 0 by omega); omega
        have hmod2 : (x : Int) % ((m : Int) + 1) = (y : Int) := by rw [← hy]; simp
        have hgt : (0 : Int) < (os.length : Int) := by omega
        have hnz : ((os.length : Int) == 0) = false := by rw [beq_eq_false_iff_ne]; omega
        clear hx hy
        rcases Nat.lt_or_ge y m with hym2 | hym2
        case inr =>
          obtain rfl : y = m := by omega
          have hce : ((y : Int) == (y : Int)) = true := by simp
          have HE := Lib.hid (HEND.out y (by omega))
          have HAL := Lib.hid (HO.out.alloc (.cells #[.int .i64 (y : Int)] 3))
          clear HEND
          go_wp2_with (at_builtin; refine wpList_append_own _ rfl _ _ 40 rfl W1.heap.size 3 i3 (.int .i64 0) 1 8 Try.underlying40 hi3 hz30 hz31 hz32 rfl (by decide) _ _ _ rfl HAL.out ⟨wr.heap.size, 0, none⟩ 1 1 [.int .i64 (y : Int)] rfl rfl ?d1 ?d2 ?d3 ?d4 ?d5 ?_)
          case d1 => exact one_new _ _ _
          case d2 => simp [Value.oneCell']
          case d3 => unfold maxLen; omega
          case d4 => omega
          case d5 => have := HBR.out.size; (try simp only [World.size_alloc]); omega
          intro v6 w6 hown6 hg6 _
          have hb6 : Below W1.heap.size W1 w6 := grownB HAL.out hg6 (Nat.le_refl _) (belowA HBR.out _)
          obtain ⟨A10, c10, rfl, hw10⟩ := APP.out y v6 w6 hown6
          have HB6 := Lib.hid hb6
          have HW := Lib.hid hw10
          clear hown6 hg6 hb6 hw10
          go_wp2_with fail
          go_roundw
          case rel => exact ⟨k + 1, q ++ [y], A10, c10, y + 1, by omega, by go_num, by go_num, by omega, rfl, Lib.hid (by have h3 := HE.out.2.2; refine ⟨HE.out.1, HE.out.2.1, by rw [h3]; omega⟩), HW, HB6⟩
          case measure => simp [intOf]; omega
        case inl =>
          have hce : ((y : Int) == (m : Int)) = false := by rw [beq_eq_false_iff_ne]; omega
          have HE := Lib.hid (HEND.out y (by omega))
          have HAL := Lib.hid (HO.out.alloc (.cells #[.int .i64 (y : Int)] 3))
          clear HEND
          go_wp2_with (at_builtin; refine wpList_append_own _ rfl _ _ 40 rfl W1.heap.size 3 i3 (.int .i64 0) 1 8 Try.underlying40 hi3 hz30 hz31 hz32 rfl (by decide) _ _ _ rfl HAL.out ⟨wr.heap.size, 0, none⟩ 1 1 [.int .i64 (y : Int)] rfl rfl ?d1 ?d2 ?d3 ?d4 ?d5 ?_)
          case d1 => exact one_new _ _ _
          case d2 => simp [Value.oneCell']
          case d3 => unfold maxLen; omega
          case d4 => omega
          case d5 => have := HBR.out.size; (try simp only [World.size_alloc]); omega
          intro v6 w6 hown6 hg6 _
          have hb6 : Below W1.heap.size W1 w6 := grownB HAL.out hg6 (Nat.le_refl _) (belowA HBR.out _)
          obtain ⟨A10, c10, rfl, hw10⟩ := APP.out y v6 w6 hown6
          have HB6 := Lib.hid hb6
          have HW := Lib.hid hw10
          clear hown6 hg6 hb6 hw10
          go_wp2_with fail
          go_roundw
          case rel => exact ⟨k + 1, q ++ [y], A10, c10, m, by omega, by go_num, by go_num, by omega, rfl, Lib.hid (by have h3 := HE.out.2.2; refine ⟨HE.out.1, HE.out.2.1, by rw [h3]; omega⟩), HW, HB6⟩
          case measure => simp [intOf]; omega
      · have hgt : ¬ (0 : Int) < (os.length : Int) := by omega
        have hgt2 : decide ((0 : Int) < (os.length : Int)) = false := decide_eq_false hgt
        rcases Nat.eq_zero_or_pos m with hm0 | hm0
        case inl =>
          subst hm0
          have hce : ((0 : Int) == (0 : Int)) = true := by simp
          have HE := Lib.hid (HEND.out 0 (by omega))
          have HAL := Lib.hid (HO.out.alloc (.cells #[.int .i64 (0 : Int)] 3))
          clear HEND
          go_wp2_with (at_builtin; refine wpList_append_own _ rfl _ _ 40 rfl W1.heap.size 3 i3 (.int .i64 0) 1 8 Try.underlying40 hi3 hz30 hz31 hz32 rfl (by decide) _ _ _ rfl HAL.out ⟨wr.heap.size, 0, none⟩ 1 1 [.int .i64 (0 : Int)] rfl rfl ?d1 ?d2 ?d3 ?d4 ?d5 ?_)
          case d2 => simp [Value.oneCell']
          case d3 => unfold maxLen; omega
          case d4 => omega
          case d5 => have := HBR.out.size; (try simp only [World.size_alloc]); omega
          intro v6 w6 hown6 hg6 _
          have hb6 : Below W1.heap.size W1 w6 := grownB HAL.out hg6 (Nat.le_refl _) (belowA HBR.out _)
          obtain ⟨A10, c10, rfl, hw10⟩ := APP.out 0 v6 w6 hown6
          have HB6 := Lib.hid hb6
          have HW := Lib.hid hw10
          clear hown6 hg6 hb6 hw10
          go_wp2_with fail
          go_roundw
          case rel => exact ⟨k + 1, q ++ [0], A10, c10, 0 + 1, by omega, by go_num, by go_num, by omega, rfl, Lib.hid (by have h3 := HE.out.2.2; refine ⟨HE.out.1, HE.out.2.1, by rw [h3]; omega⟩), HW, HB6⟩
          case measure => simp [intOf]; omega
        case inr =>
          have hz1 : ¬ m = 0 := by omega
          have hz2 : ¬ (m : Int) = 0 := by omega
          have hz3 : ((m : Int) == 0) = false := by rw [beq_eq_false_iff_ne]; omega
          have hce : ((0 : Int) == (m : Int)) = false := by rw [beq_eq_false_iff_ne]; omega
          have HE := Lib.hid (HEND.out 0 (by omega))
          have HAL := Lib.hid (HO.out.alloc (.cells #[.int .i64 (0 : Int)] 3))
          clear HEND
          go_wp2_with (at_builtin; refine wpList_append_own _ rfl _ _ 40 rfl W1.heap.size 3 i3 (.int .i64 0) 1 8 Try.underlying40 hi3 hz30 hz31 hz32 rfl (by decide) _ _ _ rfl HAL.out ⟨wr.heap.size, 0, none⟩ 1 1 [.int .i64 (0 : Int)] rfl rfl ?d1 ?d2 ?d3 ?d4 ?d5 ?_)
          case d2 => simp [Value.oneCell']
          case d3 => unfold maxLen; omega
          case d4 => omega
          case d5 => have := HBR.out.size; (try simp only [World.size_alloc]); omega
          intro v6 w6 hown6 hg6 _
          have hb6 : Below W1.heap.size W1 w6 := grownB HAL.out hg6 (Nat.le_refl _) (belowA HBR.out _)
          obtain ⟨A10, c10, rfl, hw10⟩ := APP.out 0 v6 w6 hown6
          have HB6 := Lib.hid hb6
          have HW := Lib.hid hw10
          clear hown6 hg6 hb6 hw10
          go_wp2_with fail
          go_roundw
          case rel => exact ⟨k + 1, q ++ [0], A10, c10, m, by omega, by go_num, by go_num, by omega, rfl, Lib.hid (by have h3 := HE.out.2.2; refine ⟨HE.out.1, HE.out.2.1, by rw [h3]; omega⟩), HW, HB6⟩
          case measure => simp [intOf]; omega
    · obtain rfl : k = h.ps.length := by omega
      go_wp2_with fail
      go_ret
      exact ⟨belowT HB0.out HBR.out, q, HG.out.1, HG.out.2.1, A9, c9, rfl, own_base HO.out HB0.out.size⟩
end Go.Proofs.Ytojgdallodmanaa
