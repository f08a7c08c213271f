/- The reference's Cut and Blocks, at the cuts that the program finds. BlockLight: the region of a part's pull (printed by mkK5.py). -/
import Derived.Deep.DeepCutAuto
import Derived.Test.YtojgdallodmanaaZf22f08
import Derived.Test.YtojgdallodmanaaZ05cfc2
namespace Go.Proofs.Ytojgdallodmanaa
open Go.RowKit

theorem pad_len {q : List Nat} (h : q.length ≤ 8) : (pad q).length = 8 := by unfold pad; simp; omega
theorem pad_at {q : List Nat} {k x : Nat} (h : q[k]? = some x) : (pad q)[k]? = some x := by
  unfold pad
  rw [List.getElem?_append_left (List.getElem?_eq_some_iff.1 h).1]
  exact h
theorem pad_take {q : List Nat} : (pad q).take q.length = q := by unfold pad; simp
theorem grow_drop : ∀ (q : List Nat) (m k : Nat) (x : Nat), grow m (q.drop k) = true → q[k]? = some x → x ≤ m ∧ grow (max m (x + 1)) (q.drop (k + 1)) = true := by
  intro q m k x hg hx
  obtain ⟨hk, hx⟩ := List.getElem?_eq_some_iff.1 hx
  rw [List.drop_eq_getElem_cons hk, hx] at hg
  simp only [grow, Bool.and_eq_true, decide_eq_true_eq] at hg
  exact hg
theorem grow_many {q : List Nat} (hg : grow 0 q = true) : ∀ k, k ≤ q.length → grow (manyTo (pad q) k) (q.drop k) = true := by
  intro k
  induction k with
  | zero => intro _; simpa [manyTo] using hg
  | succ k ih =>
    intro hk
    obtain ⟨x, hx⟩ : ∃ x, q[k]? = some x := ⟨_, List.getElem?_eq_getElem (by omega)⟩
    rw [manyTo, pad_at hx]
    exact (grow_drop q _ k x (ih (by omega)) hx).2
theorem grow_le_k {q : List Nat} (hg : grow 0 q = true) : ∀ k, k ≤ q.length → manyTo (pad q) k ≤ k := by
  intro k
  induction k with
  | zero => intro _; simp [manyTo]
  | succ k ih =>
    intro hk
    obtain ⟨x, hx⟩ : ∃ x, q[k]? = some x := ⟨_, List.getElem?_eq_getElem (by omega)⟩
    have h1 := ih (by omega)
    have h2 := (grow_drop q _ k x (grow_many hg k (by omega)) hx).1
    rw [manyTo, pad_at hx]
    simp only
    omega
theorem blk_zero {q : List Nat} : ∀ k j, manyTo (pad q) k ≤ j → (blkTo (pad q) k)[j]?.getD 0 = 0 := by
  intro k
  induction k with
  | zero => intro j _; rw [blkTo, List.getElem?_replicate]; split <;> rfl
  | succ k ih =>
    intro j hj
    rw [manyTo] at hj
    rw [blkTo]
    split
    · rename_i x hx
      rw [hx] at hj
      simp only at hj
      rw [List.getElem?_set_ne (by omega)]
      exact ih j (by omega)
    · rename_i hx
      rw [hx] at hj
      exact ih j hj
theorem blk_lt2 {q : List Nat} : ∀ k, ∀ x ∈ blkTo (pad q) k, x < 2 ^ k := by
  intro k
  induction k with
  | zero => intro x hx; rw [blkTo, List.mem_replicate] at hx; rw [hx.2]; decide
  | succ k ih =>
    intro x hx
    have hp : 2 ^ k < 2 ^ (k + 1) := Nat.pow_lt_pow_right (by decide) (by omega)
    have hy : ∀ y ∈ blkTo (pad q) k, y < 2 ^ (k + 1) := fun y hy => Nat.lt_trans (ih y hy) hp
    rw [blkTo] at hx
    split at hx
    · rename_i m _
      rcases List.mem_or_eq_of_mem_set hx with h1 | h1
      · exact hy x h1
      · rw [h1]
        refine Nat.or_lt_two_pow ?_ hp
        cases hg : (blkTo (pad q) k)[m]? with
        | none => simp; exact Nat.pow_pos (by decide)
        | some y => exact hy y (List.mem_of_getElem? hg)
    · exact hy x hx
/-- The blocks that are open behind k parts. -/
def rowB (q : List Nat) (k : Nat) : List Nat := (blkTo (pad q) k).take (manyTo (pad q) k)
theorem rowB_len {q : List Nat} (hq : q.length ≤ 8) (hg : grow 0 q = true) {k : Nat} (hk : k ≤ q.length) : (rowB q k).length = manyTo (pad q) k := by
  have := grow_le_k hg k hk
  unfold rowB
  rw [List.length_take, blkTo_len]
  omega
/-- One more part: where it opens a block, an empty one is laid; then it is put in. -/
theorem rowB_succ {q : List Nat} (hq : q.length ≤ 8) (hg : grow 0 q = true) {k x : Nat} (hx : q[k]? = some x) :
    (x < manyTo (pad q) k ∧ manyTo (pad q) (k + 1) = manyTo (pad q) k ∧ ∃ y, (rowB q k)[x]? = some y ∧ y < 2 ^ k ∧ rowB q (k + 1) = (rowB q k).set x (y + 2 ^ k)) ∨
    (x = manyTo (pad q) k ∧ manyTo (pad q) (k + 1) = manyTo (pad q) k + 1 ∧ rowB q (k + 1) = (rowB q k ++ [0]).set x (0 + 2 ^ k)) := by
  have hk : k < q.length := (List.getElem?_eq_some_iff.1 hx).1
  have hm := grow_le_k hg k (by omega)
  have hxm := (grow_drop q _ k x (grow_many hg k (by omega)) hx).1
  have hl := rowB_len hq hg (k := k) (by omega)
  have hbl := blkTo_len (pad q) k
  have e1 : blkTo (pad q) (k + 1) = (blkTo (pad q) k).set x ((blkTo (pad q) k)[x]?.getD 0 ||| 2 ^ k) := by rw [blkTo, pad_at hx]
  have e2 : manyTo (pad q) (k + 1) = max (manyTo (pad q) k) (x + 1) := by rw [manyTo, pad_at hx]
  have hor : ∀ y, y < 2 ^ k → y ||| 2 ^ k = y + 2 ^ k := fun y hy => by
    have := Nat.two_pow_add_eq_or_of_lt hy 1
    rw [Nat.mul_one] at this
    rw [Nat.or_comm, ← this, Nat.add_comm]
  rcases Nat.lt_or_ge x (manyTo (pad q) k) with h1 | h1
  · refine .inl ⟨h1, by omega, ?_⟩
    obtain ⟨y, hy⟩ : ∃ y, (blkTo (pad q) k)[x]? = some y := ⟨_, List.getElem?_eq_getElem (by omega)⟩
    have hyl := blk_lt2 k y (List.mem_of_getElem? hy)
    refine ⟨y, by unfold rowB; rw [List.getElem?_take_of_lt h1]; exact hy, hyl, ?_⟩
    unfold rowB
    rw [e1, e2, hy, Option.getD_some, hor y hyl, Nat.max_eq_left (by omega), List.take_set]
  · obtain rfl : x = manyTo (pad q) k := by omega
    refine .inr ⟨rfl, by omega, ?_⟩
    have h0 := blk_zero (q := q) k _ (Nat.le_refl _)
    have h0' : (blkTo (pad q) k)[manyTo (pad q) k]? = some 0 := by
      obtain ⟨y, hy⟩ : ∃ y, (blkTo (pad q) k)[manyTo (pad q) k]? = some y := ⟨_, List.getElem?_eq_getElem (by omega)⟩
      rw [hy] at h0 ⊢
      simpa using h0
    unfold rowB
    rw [e1, e2, h0, Nat.max_eq_right (by omega), List.take_set, hor 0 (Nat.pow_pos (by decide))]
    congr 1
    obtain ⟨a, b⟩ := List.getElem?_eq_some_iff.1 h0'
    rw [List.take_succ_eq_append_getElem a, b]

set_option maxRecDepth 100000 in
set_option maxHeartbeats 1000000 in
theorem cut48_any (h : Hul) (A J : Option Addr) (B cap capJ : Nat) (Q : Option Addr) (q : List Nat) (c2 : Nat) (w : World) (hq : q.length = h.ps.length) (hn8 : h.ps.length ≤ 8) (hg : grow 0 q = true) (hR : Rd1 nv w B Q q) (hB : B ≤ w.heap.size) :
    Calls Try.prog 48 #[hv h A cap J capJ, .slice Q q.length c2] w fun e w' => e = .returned (iv 0) ∧ Below w.heap.size w w' := by
  obtain ⟨W1, hW1, hb0, hzz, p0, p1, p2, p3, p4⟩ := hulBox w h A cap J capJ
  have HB0 := Lib.hid hb0
  have HR := Lib.hid (hR.below hb0 hB)
  have hBz := Nat.le_trans hB hb0.size
  have hne : ((q.length : Int) != (h.ps.length : Int)) = false := by rw [hq]; simp
  have HG := Lib.hid hg
  have HQ := Lib.hid hq
  have hq8 : q.length ≤ 8 := by omega
  clear hb0 hR hg hzz hq
  go_enter Try.func48, Try.ntmps48
  go_wp2_with fail
  clear hne hW1 p0 p1 p2 p3 p4
  go_loopw [5, 6] (fun vn vi wr => ∃ k : Nat, k ≤ q.length ∧ vi = .int .i64 k ∧ vn = .int .i64 (manyTo (pad q) k) ∧ Hid (Below W1.heap.size W1 wr)) (fun _ vi _ => q.length - (intOf vi).toNat)
  case atStart => exact ⟨0, Nat.zero_le _, rfl, rfl, Lib.hid (belowR _)⟩
  case round =>
    obtain ⟨k, hk, rfl, rfl, HBR⟩ := hrel
    by_cases hlt : k < q.length
    · obtain ⟨x, hx⟩ : ∃ x, q[k]? = some x := ⟨_, List.getElem?_eq_getElem hlt⟩
      obtain ⟨b1, o1, rfl, hb1, c1⟩ := HR.out k x hx
      have c1 := (HBR.out.cell (p := ⟨b1, o1 + k, none⟩) (by simp only; omega)).trans c1
      have hxm := (grow_drop q _ k x (grow_many HG.out k (by omega)) hx).1
      have hmk := grow_le_k HG.out k (by omega)
      have e2 : manyTo (pad q) (k + 1) = max (manyTo (pad q) k) (x + 1) := by rw [manyTo, pad_at hx]
      obtain ⟨m, hm⟩ : ∃ m, manyTo (pad q) k = m := ⟨_, rfl⟩
      rw [hm] at hxm hmk e2 ⊢
      have E2 := Lib.hid e2
      have hin : inB 0 (m : Int) (x : Int) = true := by unfold inB; simp; omega
      have HIN := Lib.hid hin
      clear hx hm e2 hin
      rcases Nat.lt_or_ge x m with hxe | hxe
      case inr =>
        obtain rfl : x = m := by omega
        have hce : ((x : Int) == (x : Int)) = true := by simp
        have E3 : Hid (manyTo (pad q) (k + 1) = x + 1) := Lib.hid (by rw [E2.out]; omega)
        clear hxm hxe
        go_wp2_with (go_at_call 59; refine (in_b HIN.out _).mono ?_; rintro e w' ⟨rfl, rfl⟩)
        go_roundw
        case rel => exact ⟨k + 1, by omega, by go_num, by rw [E3.out]; go_num, HBR⟩
        case measure => simp [intOf]; omega
      case inl =>
        have E3 : Hid (manyTo (pad q) (k + 1) = m) := Lib.hid (by rw [E2.out]; omega)
        have hce : ((x : Int) == (m : Int)) = false := by simp; omega
        go_wp2_with (go_at_call 59; refine (in_b HIN.out _).mono ?_; rintro e w' ⟨rfl, rfl⟩)
        go_roundw
        case rel => exact ⟨k + 1, by omega, by go_num, by rw [E3.out], HBR⟩
        case measure => simp [intOf]; omega
    · go_wp2_with fail
      go_ret
      exact ⟨rfl, belowT HB0.out HBR.out⟩

set_option maxRecDepth 100000 in
set_option maxHeartbeats 1000000 in
theorem blocks49_any (B : Nat) (Q : Option Addr) (q : List Nat) (c2 : Nat) (w : World) (hq8 : q.length ≤ 8) (hg : grow 0 q = true) (hR : Rd1 nv w B Q q) (hB : B ≤ w.heap.size) :
    Calls Try.prog 49 #[.slice Q q.length c2] w fun e w' => Below w.heap.size w w' ∧ ∃ A cap, e = .returned (.slice A (manyTo (pad q) q.length) cap) ∧ w'.ownsRow w.heap.size 3 1 (.slice A (manyTo (pad q) q.length) cap) (manyTo (pad q) q.length) ((rowB q q.length).map nv) := by
  obtain ⟨i3, hi3, hz30, hz31, hz32⟩ := info_parts Try.info3
  have HR := Lib.hid hR
  have HG := Lib.hid hg
  clear hR hg
  go_enter Try.func49, Try.ntmps49
  go_wp2_with fail
  go_loopw [3, 4] (fun vo vi wr => ∃ (k : Nat) (va : Value), k ≤ q.length ∧ vi = .int .i64 k ∧ va = vo ∧ Hid (wr.ownsRow w.heap.size 3 1 va (manyTo (pad q) k) ((rowB q k).map nv)) ∧ Hid (Below w.heap.size w wr)) (fun _ vi _ => q.length - (intOf vi).toNat)
  case atStart => exact ⟨0, _, Nat.zero_le _, rfl, rfl, Lib.hid (World.ownsRow_nil _ _ _ _), Lib.hid (belowR _)⟩
  case round =>
    obtain ⟨k, va, hk, rfl, rfl, HO, HBR⟩ := hrel
    obtain ⟨Av, cv, hv, _⟩ : ∃ Av cv, va = .slice Av (manyTo (pad q) k) cv ∧ True := by
      have hl := rowB_len hq8 HG.out hk
      have h := HO.out
      rw [← hl] at h
      obtain ⟨A9, c9, hv9, _⟩ := own_rd1 h
      exact ⟨A9, c9, by rw [hv9, hl], trivial⟩
    subst hv
    by_cases hlt : k < q.length
    · obtain ⟨x, hx⟩ : ∃ x, q[k]? = some x := ⟨_, List.getElem?_eq_getElem hlt⟩
      obtain ⟨b1, o1, rfl, hb1, c1w⟩ := HR.out k x hx
      have c1 := (HBR.out.cell (p := ⟨b1, o1 + k, none⟩) (by simp only; omega)).trans c1w
      have hs := rowB_succ hq8 HG.out hx
      have hmk := grow_le_k HG.out k (by omega)
      have hbt : ∀ W, Calls Try.prog 47 #[.int .i64 k] W fun e w' => e = .returned (iv (2 ^ k : Nat)) ∧ W = w' := fun W => bit_any k W (by omega)
      have hpl : 2 ^ k < 256 := pow_lt (a := k) (by omega)
      obtain ⟨P, hP⟩ : ∃ P, (2 ^ k : Nat) = P := ⟨_, rfl⟩
      have HP := Lib.hid hP
      rw [hP] at hbt hpl hs
      have HBT := Lib.hid hbt
      have hl := rowB_len hq8 HG.out hk
      obtain ⟨m1, hm1⟩ : ∃ m1, manyTo (pad q) (k + 1) = m1 := ⟨_, rfl⟩
      have HM1 := Lib.hid hm1
      obtain ⟨R1, hR1⟩ : ∃ R, rowB q (k + 1) = R := ⟨_, rfl⟩
      have HR1 := Lib.hid hR1
      rw [hm1, hR1] at hs
      obtain ⟨R, hR⟩ : ∃ R, rowB q k = R := ⟨_, rfl⟩
      rw [hR] at hs HO hl
      obtain ⟨m, hm⟩ : ∃ m, manyTo (pad q) k = m := ⟨_, rfl⟩
      rw [hm] at hs HO hl hmk ⊢
      have hk0 : (0 : Int) ≤ (k : Int) := by omega
      have hkz : (k : Int) < (q.length : Int) := by omega
      clear hbt hP hx hm1 hR1 hR hm
      rcases hs with ⟨hxm, hmm, y, hy, hyl, hr1⟩ | ⟨hxm, hmm, hr1⟩
      · obtain ⟨g, c9, hv9, hgb, hgl, _⟩ := own_form HO.out (by omega)
        injection hv9 with hv91 hv92 hv93
        subst hv91 hv93
        subst hmm
        have hown := HO.out
        rw [← hl] at hown
        obtain ⟨A9, _, hv9, hrd, _⟩ := own_rd1 hown
        injection hv9 with hv91
        subst hv91
        obtain ⟨b9, o9, he9, _, d2⟩ := hrd x y hy
        injection he9 with he9
        injection he9 with he91 he92
        subst he91 he92
        rw [Nat.zero_add] at d2
        have d3 := HO.out.frozenAt x
        have HST : Hid (∀ W : World, W.ownsRow w.heap.size 3 1 (.slice (some ⟨g, 0, none⟩) m1 cv) m1 (R.map nv) → (W.setCell ⟨g, x, none⟩ (.int .i64 ((y + P : Nat) : Int))).ownsRow w.heap.size 3 1 (.slice (some ⟨g, 0, none⟩) m1 cv) m1 (R1.map nv)) := Lib.hid fun W hW => by rw [hr1, List.map_set]; exact (hW.stored x (nv (y + P))).1
        have hce : ((x : Int) == (m1 : Int)) = false := by simp; omega
        have hw1 : IntKind.i64.wrap ((y : Int) + (P : Int)) = ((y + P : Nat) : Int) := by rw [IntKind.wrap_i64]; omega
        have hx0 : (0 : Int) ≤ (x : Int) := by omega
        have hxz : (x : Int) < (m1 : Int) := by omega
        clear hown hrd hr1 hy hl
        have hne : b1 ≠ g := by omega
        have hk8 : k ≤ 8 := by omega
        have hy256 : y < 256 := by omega
        go_upto_region 7 with fail
        refine reg49_7 hlt hxm hk8 HP.out hy256 hpl hne c1 d2 d3 ?_
        intro u100 u101 u102 u103 u104 u105 u106 u107 u108 u109 u110 u111 u112 u113 u114 u115 wx hwx
        subst hwx
        go_wp2_with fail
        have hgw : w.heap.size ≤ g := hgb
        go_roundw
        case rel => exact ⟨k + 1, _, by omega, by go_num, rfl, Lib.hid (by rw [HM1.out, HR1.out]; exact HST.out _ HO.out.drew), Lib.hid (belowS (belowDq HBR.out) hgw _)⟩
        case measure => simp [intOf]; omega
      · subst hxm
        have hce : ((x : Int) == (x : Int)) = true := by simp
        have HAL := Lib.hid (HO.out.alloc (.cells #[.int .i64 0] 3))
        have HL := Lib.hid hl
        have HR1B := Lib.hid hr1
        have HMM := Lib.hid hmm
        clear hl hr1 hmm
        go_wp2_with (at_builtin; refine wpList_append_own _ rfl _ _ 40 rfl w.heap.size 3 i3 (.int .i64 0) 1 8 Try.underlying40 hi3 hz30 hz31 hz32 rfl (by decide) _ _ _ rfl HAL.out ⟨wr.heap.size, 0, none⟩ 1 1 [.int .i64 0] rfl rfl ?d1 ?d2 ?d3 ?d4 ?d5 ?_)
        case d1 => exact one_new _ _ _
        case d2 => simp [Value.oneCell']
        case d3 => unfold maxLen; omega
        case d4 => omega
        case d5 => have := HBR.out.size; simp only [World.size_alloc]; omega
        intro v6 w6 hown6 hg6 _
        have hb6 : Below w.heap.size w w6 := grownB HAL.out hg6 (Nat.le_refl _) (belowA HBR.out _)
        have c6 := (hb6.cell (p := ⟨b1, o1 + k, none⟩) (by simp only; omega)).trans c1w
        have hown6 : w6.ownsRow w.heap.size 3 1 v6 (x + 1) ((R ++ [0]).map nv) := by rw [List.map_append]; exact hown6
        obtain ⟨g, c9, hv9, hgb, hgl, _⟩ := own_form hown6 (by omega)
        subst hv9
        have hll : (R ++ [0]).length = x + 1 := by rw [List.length_append, HL.out]; rfl
        have hown := hown6
        rw [← hll] at hown
        obtain ⟨A9, _, hv9, hrd, _⟩ := own_rd1 hown
        injection hv9 with hv91
        subst hv91
        have hy : (R ++ [0])[x]? = some 0 := by rw [← HL.out]; simp
        obtain ⟨b9, o9, he9, _, d2⟩ := hrd x 0 hy
        injection he9 with he9
        injection he9 with he91 he92
        subst he91 he92
        rw [Nat.zero_add] at d2
        have d3 := hown6.frozenAt x
        have HST : Hid (∀ W : World, W.ownsRow w.heap.size 3 1 (.slice (some ⟨g, 0, none⟩) (x + 1) c9) (x + 1) ((R ++ [0]).map nv) → (W.setCell ⟨g, x, none⟩ (.int .i64 (P : Int))).ownsRow w.heap.size 3 1 (.slice (some ⟨g, 0, none⟩) (x + 1) c9) (x + 1) (R1.map nv)) := Lib.hid fun W hW => by rw [HR1B.out, List.map_set, Nat.zero_add]; exact (hW.stored x (nv P)).1
        have hw1 : IntKind.i64.wrap (0 + (P : Int)) = (P : Int) := by rw [IntKind.wrap_i64]; omega
        have hx0 : (0 : Int) ≤ (x : Int) := by omega
        have hxz : (x : Int) < (x : Int) + 1 := by omega
        have HO6 := Lib.hid hown6
        have HB6 := Lib.hid hb6
        clear hown hrd hy hown6 hg6 hb6 c1 HO HAL
        have hne : b1 ≠ g := by omega
        have hk8 : k ≤ 8 := by omega
        go_upto_region 7 with fail
        refine reg49_7 hlt (Nat.lt_succ_self x) hk8 HP.out (show 0 < 256 by decide) hpl hne c6 d2 d3 ?_
        intro u100 u101 u102 u103 u104 u105 u106 u107 u108 u109 u110 u111 u112 u113 u114 u115 wx hwx
        subst hwx
        go_wp2_with fail
        have hgw : w.heap.size ≤ g := hgb
        go_roundw
        case rel => exact ⟨k + 1, _, by omega, by go_num, rfl, Lib.hid (by rw [HM1.out, HMM.out, HR1.out]; exact HST.out _ HO6.out.drew), Lib.hid (belowS (belowDq HB6.out) hgw _)⟩
        case measure => simp [intOf]; omega
    · obtain rfl : k = q.length := by omega
      go_wp2_with fail
      go_ret
      exact ⟨HBR.out, _, _, rfl, HO.out⟩
end Go.Proofs.Ytojgdallodmanaa

namespace Go.Proofs.Ytojgdallodmanaa
open Go.RowKit

noncomputable def ops11_12 : Array Oper := opsOf (regionOf Try.f11 12)
set_option maxRecDepth 100000 in
set_option maxHeartbeats 8000000 in
theorem reg11_12 {Q : Exit → Act → World → Prop} {V : World} {pb n cap m capJ ml capL k P : Nat} {A J AL : Option Addr} {slo shi winch a b : Int} {z0 z1 z2 z4 z5 z6 z7 z8 z9 z11 z12 z13 z15 z16 z17 z18 z19 z20 z21 z22 z23 z24 z25 z26 z27 z28 z29 z30 z31 z32 z33 z34 z35 z36 z37 z38 z39 z40 z41 z42 z43 z44 z45 z46 z47 z48 z49 z50 z51 z52 z53 z54 z55 z56 z57 z58 z59 z60 z61 z62 z63 z64 z65 z66 z67 z68 z69 z70 z71 z72 z73 z74 z75 z76 z77 z78 z79 z80 z81 z82 z83 z84 z85 z86 z87 z88 z89 z90 z91 z92 z93 z94 z95 z96 z97 z98 z99 z100 z101 z102 z103 z104 z105 z106 z107 z108 z109 z110 z111 z112 z113 z114 z115 z116 z117 z118 z119 z120 z121 z122 z123 z124 z125 z126 z127 z128 z129 z130 z131 : Value} (hbit : ∀ W, Calls Try.prog 47 #[.int .i64 k] W fun e w' => e = .returned (iv (P : Nat)) ∧ W = w') (hpull : ∀ W, Below V.heap.size V W → Calls Try.prog 22 #[.agg #[.slice A n cap, .slice J m capJ, .int .i64 slo, .int .i64 shi, .int .i64 winch], .slice AL ml capL, iv (P : Nat)] W fun e w' => e = .returned (.tuple #[.agg #[iv a, iv b], iv 0]) ∧ Below W.heap.size W w') (p0 : V.cell? ⟨pb, 0, none⟩ = some (.slice A n cap)) (p1 : V.cell? ⟨pb, 1, none⟩ = some (.slice J m capJ)) (p2 : V.cell? ⟨pb, 2, none⟩ = some (.int .i64 slo)) (p3 : V.cell? ⟨pb, 3, none⟩ = some (.int .i64 shi)) (p4 : V.cell? ⟨pb, 4, none⟩ = some (.int .i64 winch))
    (hQ : ∀ (gg : Nat) u60 u61 u62 u63 u64 u59 u65 u66 wx, Below V.heap.size V wx ∧ V.heap.size ≤ gg ∧ wx.cell? ⟨gg, 0, none⟩ = some (iv a) ∧ wx.cell? ⟨gg, 1, none⟩ = some (iv b) → Q .normal ⟨#[z0, z1, z2, .pointer (some ⟨pb, 0, none⟩), z4, z5, z6, z7, z8, z9, .slice AL ml capL, z11, z12, z13, .int .i64 k, .pointer (some ⟨gg, 0, none⟩), iv 0, z17, z18, z19, z20, z21, z22, z23, z24, z25, z26, z27, z28, z29, z30, z31, z32, z33, z34, z35, z36, z37, z38, z39, z40, z41, z42, z43, z44, z45, z46, z47, z48, z49, z50, z51, z52, z53, z54, z55, z56, z57, z58, u59, u60, u61, u62, u63, u64, u65, u66, z67, z68, z69, z70, z71, z72, z73, z74, z75, z76, z77, z78, z79, z80, z81, z82, z83, z84, z85, z86, z87, z88, z89, z90, z91, z92, z93, z94, z95, z96, z97, z98, z99, z100, z101, z102, z103, z104, z105, z106, z107, z108, z109, z110, z111, z112, z113, z114, z115, z116, z117, z118, z119, z120, z121, z122, z123, z124, z125, z126, z127, z128, z129, z130, z131], []⟩ wx) :
    (regionOf Try.f11 12).wp Try.prog Q ⟨#[z0, z1, z2, .pointer (some ⟨pb, 0, none⟩), z4, z5, z6, z7, z8, z9, .slice AL ml capL, z11, z12, z13, .int .i64 k, z15, z16, z17, z18, z19, z20, z21, z22, z23, z24, z25, z26, z27, z28, z29, z30, z31, z32, z33, z34, z35, z36, z37, z38, z39, z40, z41, z42, z43, z44, z45, z46, z47, z48, z49, z50, z51, z52, z53, z54, z55, z56, z57, z58, z59, z60, z61, z62, z63, z64, z65, z66, z67, z68, z69, z70, z71, z72, z73, z74, z75, z76, z77, z78, z79, z80, z81, z82, z83, z84, z85, z86, z87, z88, z89, z90, z91, z92, z93, z94, z95, z96, z97, z98, z99, z100, z101, z102, z103, z104, z105, z106, z107, z108, z109, z110, z111, z112, z113, z114, z115, z116, z117, z118, z119, z120, z121, z122, z123, z124, z125, z126, z127, z128, z129, z130, z131], []⟩ V := by
  have e : regionOf Try.f11 12 = Code.region 12 ops11_12 true := by kernel_rfl
  rw [e]
  have HB : Below V.heap.size V V.drew := belowDq (belowR V)
  have hHeld : (fun W => Below V.heap.size V W) V.drew := HB
  refine wp_region_noPanic ?_
  refine wp_region_held_drew (S := (fun W => Below V.heap.size V W)) (by kernel_rfl) hHeld (fun _ => ?_)
  have hsz : ops11_12.size = 11 := by kernel_rfl
  have hrep : Array.replicate 11 false = #[false, false, false, false, false, false, false, false, false, false, false] := by kernel_rfl
  rw [hsz, hrep]
  clear e hsz hrep
  generalize V.drew = V0 at HB hHeld ⊢
  obtain ⟨o, e0⟩ : ∃ o, o = opN ops11_12 0 := ⟨_, rfl⟩
  have e := e0
  conv at e => rhs; whnf
  refine wpAnyH_take (i := 0) (oi := o) (v := .agg #[.slice A n cap, .slice J m capJ, .int .i64 slo, .int .i64 shi, .int .i64 winch]) (by rw [e0]; kernel_rfl) (by kernel_rfl) (by kernel_rfl) (by kernel_rfl) (fun _ _ _ h => h) (Or.inl ⟨by rw [e]; rfl, ?_⟩) (by assumption) ?_
  · clear e0
    subst e
    intro w hSw
    have hSw : Below V.heap.size V w := hSw
    have k0 := keepC hSw p0
    have k1 := keepC hSw p1
    have k2 := keepC hSw p2
    have k3 := keepC hSw p3
    have k4 := keepC hSw p4
    go_simp
  clear e0
  subst e
  (try simp only [Act.put, List.setIfInBounds_toArray, List.set_cons_zero, List.set_cons_succ])
  obtain ⟨o, e0⟩ : ∃ o, o = opN ops11_12 1 := ⟨_, rfl⟩
  have e := e0
  conv at e => rhs; whnf
  refine wpAnyH_take (i := 1) (oi := o) (v := .slice AL ml capL) (by rw [e0]; kernel_rfl) (by kernel_rfl) (by kernel_rfl) (by kernel_rfl) (fun _ _ _ h => h) (Or.inl ⟨by rw [e]; rfl, ?_⟩) (by assumption) ?_
  · clear e0
    subst e
    intro w hSw
    have hSw : Below V.heap.size V w := hSw
    have k0 := keepC hSw p0
    have k1 := keepC hSw p1
    have k2 := keepC hSw p2
    have k3 := keepC hSw p3
    have k4 := keepC hSw p4
    go_simp
  clear e0
  subst e
  (try simp only [Act.put, List.setIfInBounds_toArray, List.set_cons_zero, List.set_cons_succ])
  obtain ⟨o, e0⟩ : ∃ o, o = opN ops11_12 2 := ⟨_, rfl⟩
  have e := e0
  conv at e => rhs; whnf
  refine wpAnyH_take (i := 2) (oi := o) (v := .int .i64 k) (by rw [e0]; kernel_rfl) (by kernel_rfl) (by kernel_rfl) (by kernel_rfl) (fun _ _ _ h => h) (Or.inl ⟨by rw [e]; rfl, ?_⟩) (by assumption) ?_
  · clear e0
    subst e
    intro w hSw
    have hSw : Below V.heap.size V w := hSw
    have k0 := keepC hSw p0
    have k1 := keepC hSw p1
    have k2 := keepC hSw p2
    have k3 := keepC hSw p3
    have k4 := keepC hSw p4
    go_simp
  clear e0
  subst e
  (try simp only [Act.put, List.setIfInBounds_toArray, List.set_cons_zero, List.set_cons_succ])
  refine wpAnyH_ready (rs := [3, 8]) (by kernel_rfl) (by simp) ?_
  refine AllReadyH.cons (o := opN ops11_12 3) (by kernel_rfl) (fun K' hK => ?_) (AllReadyH.cons (o := opN ops11_12 8) (by kernel_rfl) (fun K' hK => ?_) AllReadyH.nil)
  · skip
    obtain ⟨o, e⟩ : ∃ o, o = opN ops11_12 3 := ⟨_, rfl⟩
    rw [← e]
    conv at e => rhs; whnf
    subst e
    go_simp
    refine (hbit V0).mono ?_
    rintro e w' ⟨rfl, rfl⟩
    refine hK.out _ _ HB (fun hHeld => ?_)
    clear hK
    (try simp only [List.setIfInBounds_toArray, List.set_cons_zero, List.set_cons_succ])
    refine wpAnyH_ready (rs := [4, 8]) (by kernel_rfl) (by simp) ?_
    refine AllReadyH.cons (o := opN ops11_12 4) (by kernel_rfl) (fun K' hK => ?_) (AllReadyH.cons (o := opN ops11_12 8) (by kernel_rfl) (fun K' hK => ?_) AllReadyH.nil)
    · skip
      obtain ⟨o, e⟩ : ∃ o, o = opN ops11_12 4 := ⟨_, rfl⟩
      rw [← e]
      conv at e => rhs; whnf
      subst e
      go_simp
      refine (hpull V0 HB).mono ?_
      rintro e w4 ⟨rfl, hb4⟩
      have HB4 := belowT HB hb4
      refine hK.out _ _ HB4 (fun hHeld => ?_)
      clear hK
      (try simp only [List.setIfInBounds_toArray, List.set_cons_zero, List.set_cons_succ])
      obtain ⟨o, e0⟩ : ∃ o, o = opN ops11_12 5 := ⟨_, rfl⟩
      have e := e0
      conv at e => rhs; whnf
      refine wpAnyH_take (i := 5) (oi := o) (v := .tuple #[.agg #[iv a, iv b], iv 0]) (by rw [e0]; kernel_rfl) (by kernel_rfl) (by kernel_rfl) (by kernel_rfl) (fun _ _ _ h => h) (Or.inl ⟨by rw [e]; rfl, ?_⟩) (by assumption) ?_
      · clear e0
        subst e
        intro w hSw
        have hSw : Below V.heap.size V w := hSw
        have k0 := keepC hSw p0
        have k1 := keepC hSw p1
        have k2 := keepC hSw p2
        have k3 := keepC hSw p3
        have k4 := keepC hSw p4
        go_simp
      clear e0
      subst e
      (try simp only [Act.put, List.setIfInBounds_toArray, List.set_cons_zero, List.set_cons_succ])
      obtain ⟨o, e0⟩ : ∃ o, o = opN ops11_12 6 := ⟨_, rfl⟩
      have e := e0
      conv at e => rhs; whnf
      refine wpAnyH_take (i := 6) (oi := o) (v := .agg #[iv a, iv b]) (by rw [e0]; kernel_rfl) (by kernel_rfl) (by kernel_rfl) (by kernel_rfl) (fun _ _ _ h => h) (Or.inl ⟨by rw [e]; rfl, ?_⟩) (by assumption) ?_
      · clear e0
        subst e
        intro w hSw
        have hSw : Below V.heap.size V w := hSw
        have k0 := keepC hSw p0
        have k1 := keepC hSw p1
        have k2 := keepC hSw p2
        have k3 := keepC hSw p3
        have k4 := keepC hSw p4
        go_simp
      clear e0
      subst e
      (try simp only [Act.put, List.setIfInBounds_toArray, List.set_cons_zero, List.set_cons_succ])
      obtain ⟨o, e0⟩ : ∃ o, o = opN ops11_12 7 := ⟨_, rfl⟩
      have e := e0
      conv at e => rhs; whnf
      refine wpAnyH_take (i := 7) (oi := o) (v := iv 0) (by rw [e0]; kernel_rfl) (by kernel_rfl) (by kernel_rfl) (by kernel_rfl) (fun _ _ _ h => h) (Or.inl ⟨by rw [e]; rfl, ?_⟩) (by assumption) ?_
      · clear e0
        subst e
        intro w hSw
        have hSw : Below V.heap.size V w := hSw
        have k0 := keepC hSw p0
        have k1 := keepC hSw p1
        have k2 := keepC hSw p2
        have k3 := keepC hSw p3
        have k4 := keepC hSw p4
        go_simp
      clear e0
      subst e
      (try simp only [Act.put, List.setIfInBounds_toArray, List.set_cons_zero, List.set_cons_succ])
      refine wpAnyH_ready (rs := [8]) (by kernel_rfl) (by simp) ?_
      refine AllReadyH.cons (o := opN ops11_12 8) (by kernel_rfl) (fun K' hK => ?_) AllReadyH.nil
      obtain ⟨o, e⟩ : ∃ o, o = opN ops11_12 8 := ⟨_, rfl⟩
      rw [← e]
      conv at e => rhs; whnf
      subst e
      go_simp
      obtain ⟨W8, hW8⟩ : ∃ W8, w4.alloc (.cells #[iv 0, iv 0] 25) = W8 := ⟨_, rfl⟩
      have hb8 : Below w4.heap.size w4 W8 := by rw [← hW8]; exact belowA (belowR _) _
      have HB8 := belowT HB4 hb8
      have c0 : W8.cell? ⟨w4.heap.size, 0, none⟩ = some (iv 0) := by rw [← hW8]; clear hW8 hK; go_simp
      have c1 : W8.cell? ⟨w4.heap.size, 1, none⟩ = some (iv 0) := by rw [← hW8]; clear hW8 hK; go_simp
      have f0 : W8.frozen? ⟨w4.heap.size, 0, none⟩ = false := by rw [← hW8]; clear hW8 hK; go_simp
      have f1 : W8.frozen? ⟨w4.heap.size, 1, none⟩ = false := by rw [← hW8]; clear hW8 hK; go_simp
      have hgz : V.heap.size ≤ w4.heap.size := (HB4).size
      obtain ⟨gg, hgg⟩ : ∃ gg, w4.heap.size = gg := ⟨_, rfl⟩
      have hlt8 : gg < W8.heap.size := by rw [← hgg]; exact lt_of_cell c0
      simp only [iv] at hW8
      (try rw [hW8])
      rw [hgg] at c0 c1 f0 f1 hgz ⊢
      refine hK.out _ _ HB8 (fun hHeld => ?_)
      clear hK hW8 hgg
      (try simp only [List.setIfInBounds_toArray, List.set_cons_zero, List.set_cons_succ])
      refine wpAnyH_ready (rs := [9]) (by kernel_rfl) (by simp) ?_
      refine AllReadyH.cons (o := opN ops11_12 9) (by kernel_rfl) (fun K' hK => ?_) AllReadyH.nil
      obtain ⟨o, e⟩ : ∃ o, o = opN ops11_12 9 := ⟨_, rfl⟩
      rw [← e]
      conv at e => rhs; whnf
      subst e
      go_simp
      have HBX := belowS (p := ⟨gg, 1, none⟩) (belowS (p := ⟨gg, 0, none⟩) (HB8) hgz (iv a)) hgz (iv b)
      obtain ⟨wx, hwx⟩ : ∃ wx, (W8.setCell ⟨gg, 0, none⟩ (iv a)).setCell ⟨gg, 1, none⟩ (iv b) = wx := ⟨_, rfl⟩
      have x0 : wx.cell? ⟨gg, 0, none⟩ = some (iv a) := by rw [← hwx]; clear hwx hK; go_simp
      have x1 : wx.cell? ⟨gg, 1, none⟩ = some (iv b) := by rw [← hwx]; clear hwx hK; go_simp
      simp only [iv] at hwx
      have HBX : Below V.heap.size V wx := by rw [← hwx]; exact HBX
      (try rw [hwx])
      refine hK.out _ _ HBX (fun hHeld => ?_)
      clear hK
      (try simp only [List.setIfInBounds_toArray, List.set_cons_zero, List.set_cons_succ])
      obtain ⟨o, e0⟩ : ∃ o, o = opN ops11_12 10 := ⟨_, rfl⟩
      have e := e0
      conv at e => rhs; whnf
      refine wpAnyH_take (i := 10) (oi := o) (v := iv 0) (by rw [e0]; kernel_rfl) (by kernel_rfl) (by kernel_rfl) (by kernel_rfl) (fun _ _ _ h => h) (Or.inl ⟨by rw [e]; rfl, ?_⟩) (by assumption) ?_
      · clear e0
        subst e
        intro w hSw
        have hSw : Below V.heap.size V w := hSw
        have k0 := keepC hSw p0
        have k1 := keepC hSw p1
        have k2 := keepC hSw p2
        have k3 := keepC hSw p3
        have k4 := keepC hSw p4
        go_simp
      clear e0
      subst e
      (try simp only [Act.put, List.setIfInBounds_toArray, List.set_cons_zero, List.set_cons_succ])
      refine wpAnyH_done (by kernel_rfl) ?_ _
      exact NoPanic.normal (hQ gg _ _ _ _ _ _ _ _ _ ⟨HBX, hgz, x0, x1⟩)
    · skip
      obtain ⟨o, e⟩ : ∃ o, o = opN ops11_12 8 := ⟨_, rfl⟩
      rw [← e]
      conv at e => rhs; whnf
      subst e
      go_simp
      obtain ⟨W8, hW8⟩ : ∃ W8, V0.alloc (.cells #[iv 0, iv 0] 25) = W8 := ⟨_, rfl⟩
      have hb8 : Below V0.heap.size V0 W8 := by rw [← hW8]; exact belowA (belowR _) _
      have HB8 := belowT HB hb8
      have c0 : W8.cell? ⟨V0.heap.size, 0, none⟩ = some (iv 0) := by rw [← hW8]; clear hW8 hK; go_simp
      have c1 : W8.cell? ⟨V0.heap.size, 1, none⟩ = some (iv 0) := by rw [← hW8]; clear hW8 hK; go_simp
      have f0 : W8.frozen? ⟨V0.heap.size, 0, none⟩ = false := by rw [← hW8]; clear hW8 hK; go_simp
      have f1 : W8.frozen? ⟨V0.heap.size, 1, none⟩ = false := by rw [← hW8]; clear hW8 hK; go_simp
      have hgz : V.heap.size ≤ V0.heap.size := (HB).size
      obtain ⟨gg, hgg⟩ : ∃ gg, V0.heap.size = gg := ⟨_, rfl⟩
      have hlt8 : gg < W8.heap.size := by rw [← hgg]; exact lt_of_cell c0
      simp only [iv] at hW8
      (try rw [hW8])
      rw [hgg] at c0 c1 f0 f1 hgz ⊢
      refine hK.out _ _ HB8 (fun hHeld => ?_)
      clear hK hW8 hgg
      (try simp only [List.setIfInBounds_toArray, List.set_cons_zero, List.set_cons_succ])
      refine wpAnyH_ready (rs := [4]) (by kernel_rfl) (by simp) ?_
      refine AllReadyH.cons (o := opN ops11_12 4) (by kernel_rfl) (fun K' hK => ?_) AllReadyH.nil
      obtain ⟨o, e⟩ : ∃ o, o = opN ops11_12 4 := ⟨_, rfl⟩
      rw [← e]
      conv at e => rhs; whnf
      subst e
      go_simp
      refine (hpull W8 HB8).mono ?_
      rintro e w4 ⟨rfl, hb4⟩
      have HB4 := belowT HB8 hb4
      refine hK.out _ _ HB4 (fun hHeld => ?_)
      clear hK
      (try simp only [List.setIfInBounds_toArray, List.set_cons_zero, List.set_cons_succ])
      have c0 := keepC hb4 c0
      have c1 := keepC hb4 c1
      have f0 : w4.frozen? ⟨gg, 0, none⟩ = false := (World.frozen?_of_block (a := ⟨gg, 0, none⟩) (hb4.block _ hlt8)).trans f0
      have f1 : w4.frozen? ⟨gg, 1, none⟩ = false := (World.frozen?_of_block (a := ⟨gg, 1, none⟩) (hb4.block _ hlt8)).trans f1
      obtain ⟨o, e0⟩ : ∃ o, o = opN ops11_12 5 := ⟨_, rfl⟩
      have e := e0
      conv at e => rhs; whnf
      refine wpAnyH_take (i := 5) (oi := o) (v := .tuple #[.agg #[iv a, iv b], iv 0]) (by rw [e0]; kernel_rfl) (by kernel_rfl) (by kernel_rfl) (by kernel_rfl) (fun _ _ _ h => h) (Or.inl ⟨by rw [e]; rfl, ?_⟩) (by assumption) ?_
      · clear e0
        subst e
        intro w hSw
        have hSw : Below V.heap.size V w := hSw
        have k0 := keepC hSw p0
        have k1 := keepC hSw p1
        have k2 := keepC hSw p2
        have k3 := keepC hSw p3
        have k4 := keepC hSw p4
        go_simp
      clear e0
      subst e
      (try simp only [Act.put, List.setIfInBounds_toArray, List.set_cons_zero, List.set_cons_succ])
      obtain ⟨o, e0⟩ : ∃ o, o = opN ops11_12 6 := ⟨_, rfl⟩
      have e := e0
      conv at e => rhs; whnf
      refine wpAnyH_take (i := 6) (oi := o) (v := .agg #[iv a, iv b]) (by rw [e0]; kernel_rfl) (by kernel_rfl) (by kernel_rfl) (by kernel_rfl) (fun _ _ _ h => h) (Or.inl ⟨by rw [e]; rfl, ?_⟩) (by assumption) ?_
      · clear e0
        subst e
        intro w hSw
        have hSw : Below V.heap.size V w := hSw
        have k0 := keepC hSw p0
        have k1 := keepC hSw p1
        have k2 := keepC hSw p2
        have k3 := keepC hSw p3
        have k4 := keepC hSw p4
        go_simp
      clear e0
      subst e
      (try simp only [Act.put, List.setIfInBounds_toArray, List.set_cons_zero, List.set_cons_succ])
      obtain ⟨o, e0⟩ : ∃ o, o = opN ops11_12 7 := ⟨_, rfl⟩
      have e := e0
      conv at e => rhs; whnf
      refine wpAnyH_take (i := 7) (oi := o) (v := iv 0) (by rw [e0]; kernel_rfl) (by kernel_rfl) (by kernel_rfl) (by kernel_rfl) (fun _ _ _ h => h) (Or.inl ⟨by rw [e]; rfl, ?_⟩) (by assumption) ?_
      · clear e0
        subst e
        intro w hSw
        have hSw : Below V.heap.size V w := hSw
        have k0 := keepC hSw p0
        have k1 := keepC hSw p1
        have k2 := keepC hSw p2
        have k3 := keepC hSw p3
        have k4 := keepC hSw p4
        go_simp
      clear e0
      subst e
      (try simp only [Act.put, List.setIfInBounds_toArray, List.set_cons_zero, List.set_cons_succ])
      refine wpAnyH_ready (rs := [9]) (by kernel_rfl) (by simp) ?_
      refine AllReadyH.cons (o := opN ops11_12 9) (by kernel_rfl) (fun K' hK => ?_) AllReadyH.nil
      obtain ⟨o, e⟩ : ∃ o, o = opN ops11_12 9 := ⟨_, rfl⟩
      rw [← e]
      conv at e => rhs; whnf
      subst e
      go_simp
      have HBX := belowS (p := ⟨gg, 1, none⟩) (belowS (p := ⟨gg, 0, none⟩) (HB4) hgz (iv a)) hgz (iv b)
      obtain ⟨wx, hwx⟩ : ∃ wx, (w4.setCell ⟨gg, 0, none⟩ (iv a)).setCell ⟨gg, 1, none⟩ (iv b) = wx := ⟨_, rfl⟩
      have x0 : wx.cell? ⟨gg, 0, none⟩ = some (iv a) := by rw [← hwx]; clear hwx hK; go_simp
      have x1 : wx.cell? ⟨gg, 1, none⟩ = some (iv b) := by rw [← hwx]; clear hwx hK; go_simp
      simp only [iv] at hwx
      have HBX : Below V.heap.size V wx := by rw [← hwx]; exact HBX
      (try rw [hwx])
      refine hK.out _ _ HBX (fun hHeld => ?_)
      clear hK
      (try simp only [List.setIfInBounds_toArray, List.set_cons_zero, List.set_cons_succ])
      obtain ⟨o, e0⟩ : ∃ o, o = opN ops11_12 10 := ⟨_, rfl⟩
      have e := e0
      conv at e => rhs; whnf
      refine wpAnyH_take (i := 10) (oi := o) (v := iv 0) (by rw [e0]; kernel_rfl) (by kernel_rfl) (by kernel_rfl) (by kernel_rfl) (fun _ _ _ h => h) (Or.inl ⟨by rw [e]; rfl, ?_⟩) (by assumption) ?_
      · clear e0
        subst e
        intro w hSw
        have hSw : Below V.heap.size V w := hSw
        have k0 := keepC hSw p0
        have k1 := keepC hSw p1
        have k2 := keepC hSw p2
        have k3 := keepC hSw p3
        have k4 := keepC hSw p4
        go_simp
      clear e0
      subst e
      (try simp only [Act.put, List.setIfInBounds_toArray, List.set_cons_zero, List.set_cons_succ])
      refine wpAnyH_done (by kernel_rfl) ?_ _
      exact NoPanic.normal (hQ gg _ _ _ _ _ _ _ _ _ ⟨HBX, hgz, x0, x1⟩)
  · skip
    obtain ⟨o, e⟩ : ∃ o, o = opN ops11_12 8 := ⟨_, rfl⟩
    rw [← e]
    conv at e => rhs; whnf
    subst e
    go_simp
    obtain ⟨W8, hW8⟩ : ∃ W8, V0.alloc (.cells #[iv 0, iv 0] 25) = W8 := ⟨_, rfl⟩
    have hb8 : Below V0.heap.size V0 W8 := by rw [← hW8]; exact belowA (belowR _) _
    have HB8 := belowT HB hb8
    have c0 : W8.cell? ⟨V0.heap.size, 0, none⟩ = some (iv 0) := by rw [← hW8]; clear hW8 hK; go_simp
    have c1 : W8.cell? ⟨V0.heap.size, 1, none⟩ = some (iv 0) := by rw [← hW8]; clear hW8 hK; go_simp
    have f0 : W8.frozen? ⟨V0.heap.size, 0, none⟩ = false := by rw [← hW8]; clear hW8 hK; go_simp
    have f1 : W8.frozen? ⟨V0.heap.size, 1, none⟩ = false := by rw [← hW8]; clear hW8 hK; go_simp
    have hgz : V.heap.size ≤ V0.heap.size := (HB).size
    obtain ⟨gg, hgg⟩ : ∃ gg, V0.heap.size = gg := ⟨_, rfl⟩
    have hlt8 : gg < W8.heap.size := by rw [← hgg]; exact lt_of_cell c0
    simp only [iv] at hW8
    (try rw [hW8])
    rw [hgg] at c0 c1 f0 f1 hgz ⊢
    refine hK.out _ _ HB8 (fun hHeld => ?_)
    clear hK hW8 hgg
    (try simp only [List.setIfInBounds_toArray, List.set_cons_zero, List.set_cons_succ])
    refine wpAnyH_ready (rs := [3]) (by kernel_rfl) (by simp) ?_
    refine AllReadyH.cons (o := opN ops11_12 3) (by kernel_rfl) (fun K' hK => ?_) AllReadyH.nil
    obtain ⟨o, e⟩ : ∃ o, o = opN ops11_12 3 := ⟨_, rfl⟩
    rw [← e]
    conv at e => rhs; whnf
    subst e
    go_simp
    refine (hbit W8).mono ?_
    rintro e w' ⟨rfl, rfl⟩
    refine hK.out _ _ HB8 (fun hHeld => ?_)
    clear hK
    (try simp only [List.setIfInBounds_toArray, List.set_cons_zero, List.set_cons_succ])
    refine wpAnyH_ready (rs := [4]) (by kernel_rfl) (by simp) ?_
    refine AllReadyH.cons (o := opN ops11_12 4) (by kernel_rfl) (fun K' hK => ?_) AllReadyH.nil
    obtain ⟨o, e⟩ : ∃ o, o = opN ops11_12 4 := ⟨_, rfl⟩
    rw [← e]
    conv at e => rhs; whnf
    subst e
    go_simp
    refine (hpull W8 HB8).mono ?_
    rintro e w4 ⟨rfl, hb4⟩
    have HB4 := belowT HB8 hb4
    refine hK.out _ _ HB4 (fun hHeld => ?_)
    clear hK
    (try simp only [List.setIfInBounds_toArray, List.set_cons_zero, List.set_cons_succ])
    have c0 := keepC hb4 c0
    have c1 := keepC hb4 c1
    have f0 : w4.frozen? ⟨gg, 0, none⟩ = false := (World.frozen?_of_block (a := ⟨gg, 0, none⟩) (hb4.block _ hlt8)).trans f0
    have f1 : w4.frozen? ⟨gg, 1, none⟩ = false := (World.frozen?_of_block (a := ⟨gg, 1, none⟩) (hb4.block _ hlt8)).trans f1
    obtain ⟨o, e0⟩ : ∃ o, o = opN ops11_12 5 := ⟨_, rfl⟩
    have e := e0
    conv at e => rhs; whnf
    refine wpAnyH_take (i := 5) (oi := o) (v := .tuple #[.agg #[iv a, iv b], iv 0]) (by rw [e0]; kernel_rfl) (by kernel_rfl) (by kernel_rfl) (by kernel_rfl) (fun _ _ _ h => h) (Or.inl ⟨by rw [e]; rfl, ?_⟩) (by assumption) ?_
    · clear e0
      subst e
      intro w hSw
      have hSw : Below V.heap.size V w := hSw
      have k0 := keepC hSw p0
      have k1 := keepC hSw p1
      have k2 := keepC hSw p2
      have k3 := keepC hSw p3
      have k4 := keepC hSw p4
      go_simp
    clear e0
    subst e
    (try simp only [Act.put, List.setIfInBounds_toArray, List.set_cons_zero, List.set_cons_succ])
    obtain ⟨o, e0⟩ : ∃ o, o = opN ops11_12 6 := ⟨_, rfl⟩
    have e := e0
    conv at e => rhs; whnf
    refine wpAnyH_take (i := 6) (oi := o) (v := .agg #[iv a, iv b]) (by rw [e0]; kernel_rfl) (by kernel_rfl) (by kernel_rfl) (by kernel_rfl) (fun _ _ _ h => h) (Or.inl ⟨by rw [e]; rfl, ?_⟩) (by assumption) ?_
    · clear e0
      subst e
      intro w hSw
      have hSw : Below V.heap.size V w := hSw
      have k0 := keepC hSw p0
      have k1 := keepC hSw p1
      have k2 := keepC hSw p2
      have k3 := keepC hSw p3
      have k4 := keepC hSw p4
      go_simp
    clear e0
    subst e
    (try simp only [Act.put, List.setIfInBounds_toArray, List.set_cons_zero, List.set_cons_succ])
    obtain ⟨o, e0⟩ : ∃ o, o = opN ops11_12 7 := ⟨_, rfl⟩
    have e := e0
    conv at e => rhs; whnf
    refine wpAnyH_take (i := 7) (oi := o) (v := iv 0) (by rw [e0]; kernel_rfl) (by kernel_rfl) (by kernel_rfl) (by kernel_rfl) (fun _ _ _ h => h) (Or.inl ⟨by rw [e]; rfl, ?_⟩) (by assumption) ?_
    · clear e0
      subst e
      intro w hSw
      have hSw : Below V.heap.size V w := hSw
      have k0 := keepC hSw p0
      have k1 := keepC hSw p1
      have k2 := keepC hSw p2
      have k3 := keepC hSw p3
      have k4 := keepC hSw p4
      go_simp
    clear e0
    subst e
    (try simp only [Act.put, List.setIfInBounds_toArray, List.set_cons_zero, List.set_cons_succ])
    refine wpAnyH_ready (rs := [9]) (by kernel_rfl) (by simp) ?_
    refine AllReadyH.cons (o := opN ops11_12 9) (by kernel_rfl) (fun K' hK => ?_) AllReadyH.nil
    obtain ⟨o, e⟩ : ∃ o, o = opN ops11_12 9 := ⟨_, rfl⟩
    rw [← e]
    conv at e => rhs; whnf
    subst e
    go_simp
    have HBX := belowS (p := ⟨gg, 1, none⟩) (belowS (p := ⟨gg, 0, none⟩) (HB4) hgz (iv a)) hgz (iv b)
    obtain ⟨wx, hwx⟩ : ∃ wx, (w4.setCell ⟨gg, 0, none⟩ (iv a)).setCell ⟨gg, 1, none⟩ (iv b) = wx := ⟨_, rfl⟩
    have x0 : wx.cell? ⟨gg, 0, none⟩ = some (iv a) := by rw [← hwx]; clear hwx hK; go_simp
    have x1 : wx.cell? ⟨gg, 1, none⟩ = some (iv b) := by rw [← hwx]; clear hwx hK; go_simp
    simp only [iv] at hwx
    have HBX : Below V.heap.size V wx := by rw [← hwx]; exact HBX
    (try rw [hwx])
    refine hK.out _ _ HBX (fun hHeld => ?_)
    clear hK
    (try simp only [List.setIfInBounds_toArray, List.set_cons_zero, List.set_cons_succ])
    obtain ⟨o, e0⟩ : ∃ o, o = opN ops11_12 10 := ⟨_, rfl⟩
    have e := e0
    conv at e => rhs; whnf
    refine wpAnyH_take (i := 10) (oi := o) (v := iv 0) (by rw [e0]; kernel_rfl) (by kernel_rfl) (by kernel_rfl) (by kernel_rfl) (fun _ _ _ h => h) (Or.inl ⟨by rw [e]; rfl, ?_⟩) (by assumption) ?_
    · clear e0
      subst e
      intro w hSw
      have hSw : Below V.heap.size V w := hSw
      have k0 := keepC hSw p0
      have k1 := keepC hSw p1
      have k2 := keepC hSw p2
      have k3 := keepC hSw p3
      have k4 := keepC hSw p4
      go_simp
    clear e0
    subst e
    (try simp only [Act.put, List.setIfInBounds_toArray, List.set_cons_zero, List.set_cons_succ])
    refine wpAnyH_done (by kernel_rfl) ?_ _
    exact NoPanic.normal (hQ gg _ _ _ _ _ _ _ _ _ ⟨HBX, hgz, x0, x1⟩)

end Go.Proofs.Ytojgdallodmanaa
