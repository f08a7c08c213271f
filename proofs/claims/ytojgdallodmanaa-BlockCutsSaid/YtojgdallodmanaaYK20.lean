/- How heavy the heaviest block of a cut is, and the lightest of these: the plain law. No program is named here. -/
import Derived.Test.YtojgdallodmanaaZ0dff73
namespace Go.Proofs.Ytojgdallodmanaa
open Go.RowKit

/-- The greatest of the first numbers, at least 0. -/
def heavyTo (f : Nat → Int) (S : List Nat) : Nat → Int
  | 0 => 0
  | k + 1 => max (heavyTo f S k) (f (S[k]?.getD 0))
def heavyF (f : Nat → Int) (S : List Nat) : Int := if S.all (fun x => decide (0 ≤ f x)) = true then heavyTo f S S.length else -1
section
variable {f : Nat → Int} {S : List Nat}
theorem heavyTo_nn : ∀ k, 0 ≤ heavyTo f S k := by
  intro k
  induction k with
  | zero => exact Int.le_refl _
  | succ k ih => rw [heavyTo]; omega
theorem heavyTo_le {W : Int} (hW : 0 ≤ W) : ∀ k, heavyTo f S k ≤ W ↔ ∀ j, j < k → f (S[j]?.getD 0) ≤ W := by
  intro k
  induction k with
  | zero => exact ⟨fun _ j hj => by omega, fun _ => hW⟩
  | succ k ih =>
    rw [heavyTo]
    constructor
    · intro h j hj
      rcases Nat.lt_or_ge j k with h1 | h1
      · exact ih.1 (by omega) j h1
      · obtain rfl : j = k := by omega
        omega
    · intro h
      have := ih.2 fun j hj => h j (by omega)
      have := h k (by omega)
      omega
theorem heavyTo_is : ∀ k, heavyTo f S k = 0 ∨ ∃ j, j < k ∧ heavyTo f S k = f (S[j]?.getD 0) := by
  intro k
  induction k with
  | zero => exact .inl rfl
  | succ k ih =>
    rw [heavyTo]
    rcases Int.le_total (f (S[k]?.getD 0)) (heavyTo f S k) with h | h
    · rw [show max (heavyTo f S k) (f (S[k]?.getD 0)) = heavyTo f S k from by omega]
      rcases ih with e | ⟨j, hj, e⟩
      · exact .inl e
      · exact .inr ⟨j, by omega, e⟩
    · exact .inr ⟨k, by omega, by omega⟩
theorem heavyTo_mul {s W : Int} (hs : 0 ≤ s) (hW : 0 ≤ W) (k : Nat) : heavyTo f S k * s ≤ W ↔ ∀ j, j < k → f (S[j]?.getD 0) * s ≤ W := by
  constructor
  · intro h j hj
    have h1 := (heavyTo_le (f := f) (S := S) (heavyTo_nn k) k).1 (Int.le_refl _) j hj
    exact Int.le_trans (Int.mul_le_mul_of_nonneg_right h1 hs) h
  · intro h
    rcases heavyTo_is (f := f) (S := S) k with e | ⟨j, hj, e⟩
    · rw [e, Int.zero_mul]; exact hW
    · rw [e]; exact h j hj
theorem heavyF_ok (h : ∀ x ∈ S, 0 ≤ f x) : heavyF f S = heavyTo f S S.length := by
  unfold heavyF
  rw [if_pos]
  rw [List.all_eq_true]
  intro x hx
  exact decide_eq_true (h x hx)
theorem heavyF_no {x : Nat} (hx : x ∈ S) (h : f x < 0) : heavyF f S = -1 := by
  unfold heavyF
  rw [if_neg]
  intro ha
  rw [List.all_eq_true] at ha
  have := of_decide_eq_true (ha x hx)
  omega
theorem heavyF_iff : 0 ≤ heavyF f S ↔ ∀ x ∈ S, 0 ≤ f x := by
  constructor
  · intro h x hx
    rcases Int.lt_or_le (f x) 0 with h1 | h1
    · rw [heavyF_no hx h1] at h; omega
    · exact h1
  · intro h
    rw [heavyF_ok h]
    exact heavyTo_nn _
theorem heavyF_ge : -1 ≤ heavyF f S := by
  unfold heavyF
  split
  · have := heavyTo_nn (f := f) (S := S) S.length; omega
  · omega
end
/-- How heavy a set can be, or -1 if it does not hang together. -/
def hangW (h : Hul) (l : List Wgh) (s : Nat) : Int := if 0 < s ∧ hangsB h.js s = true then mostRef h l s else -1
theorem rowB_pos {q : List Nat} (hq : q.length ≤ 8) (hg : grow 0 q = true) : ∀ k, k ≤ q.length → ∀ x ∈ rowB q k, 0 < x := by
  intro k
  induction k with
  | zero => intro _ x hx; simp [rowB, manyTo] at hx
  | succ k ih =>
    intro hk x hx
    obtain ⟨y, hy⟩ : ∃ y, q[k]? = some y := ⟨_, List.getElem?_eq_getElem (by omega)⟩
    have hp : 0 < 2 ^ k := Nat.pow_pos (by decide)
    rcases rowB_succ hq hg hy with ⟨_, _, z, hz, _, e⟩ | ⟨e1, _, e⟩
    · rw [e] at hx
      rcases List.mem_or_eq_of_mem_set hx with h1 | h1
      · exact ih (by omega) x h1
      · omega
    · have hl := rowB_len hq hg (k := k) (by omega)
      rw [e, List.set_append_right _ _ (by omega), show y - (rowB q k).length = 0 from by omega, List.set_cons_zero, List.mem_append, List.mem_singleton] at hx
      rcases hx with h1 | h1
      · exact ih (by omega) x h1
      · omega
section
variable {h : Hul} {l : List Wgh} {N : List Nd} {b : Nat}
theorem rowB_at {q : List Nat} (hq : q.length ≤ 8) (hg : grow 0 q = true) {j : Nat} (hj : j < manyTo (pad q) q.length) : (rowB q q.length)[j]? = some (blkAt (pad q) q.length j) := by
  have hm := grow_le_k hg q.length (Nat.le_refl _)
  have hbl := blkTo_len (pad q) q.length
  unfold rowB blkAt
  rw [List.getElem?_take_of_lt hj, List.getElem?_eq_getElem (by omega)]
  rfl
theorem rowB_mem {q : List Nat} (hq : q.length ≤ 8) (hg : grow 0 q = true) {x : Nat} : x ∈ rowB q q.length ↔ ∃ j, j < manyTo (pad q) q.length ∧ x = blkAt (pad q) q.length j := by
  have hl := rowB_len hq hg (Nat.le_refl _)
  constructor
  · intro hx
    obtain ⟨j, hj⟩ := List.getElem?_of_mem hx
    have hjl := (List.getElem?_eq_some_iff.1 hj).1
    rw [hl] at hjl
    rw [rowB_at hq hg hjl] at hj
    exact ⟨j, hjl, by injection hj with hj; exact hj.symm⟩
  · rintro ⟨j, hj, rfl⟩
    exact List.mem_of_getElem? (rowB_at hq hg hj)
theorem hangCut_iff {js : List (Int × Int)} {q : List Nat} {n : Nat} : hangCut js q n = true ↔ ∀ j, j < manyTo (pad q) n → hangsB js (blkAt (pad q) n j) = true := by
  unfold hangCut anyTo blkAt
  simp only [Bool.not_eq_true', List.any_eq_false, List.mem_range]
  exact ⟨fun H j hj => by simpa using H j hj, fun H j hj => by simpa using H j hj⟩
theorem mostRef_nn (hp : openPre h l = 0) (hf : Feas h l) {s : Nat} (hs : s < 2 ^ h.ps.length) : 0 ≤ mostRef h l s ∧ mostRef h l s ≤ 800000 := by
  obtain ⟨a, b, c⟩ := lwOk hp
  obtain ⟨w, hw, e⟩ := (a.most_is b c hf hs).2.2
  have hk := hulOk (openPre_zero hp).1
  have hn8 := hk.n8
  have := truth_bd hk hw hs
  omega
theorem hangW_bd (hp : openPre h l = 0) (hf : Feas h l) {s : Nat} (hs : s < 2 ^ h.ps.length) : -1 ≤ hangW h l s ∧ hangW h l s ≤ 800000 := by
  have := mostRef_nn hp hf hs
  unfold hangW
  split <;> omega
theorem hangW_nn (hp : openPre h l = 0) (hf : Feas h l) {s : Nat} (h0 : 0 < s) (hs : s < 2 ^ h.ps.length) : 0 ≤ hangW h l s ↔ hangsB h.js s = true := by
  have := mostRef_nn hp hf hs
  unfold hangW
  split
  · rename_i e; exact ⟨fun _ => e.2, fun _ => by omega⟩
  · rename_i e; exact ⟨fun hh => by omega, fun hh => absurd ⟨h0, hh⟩ e⟩
theorem blkAt_pos {q : List Nat} (hq : q.length ≤ 8) (hg : grow 0 q = true) {j : Nat} (hj : j < manyTo (pad q) q.length) : 0 < blkAt (pad q) q.length j := rowB_pos hq hg _ (Nat.le_refl _) _ ((rowB_mem hq hg).2 ⟨j, hj, rfl⟩)
/-- The heaviest block of a cut. -/
def heavyV (h : Hul) (l : List Wgh) (q : List Nat) : Int := heavyF (hangW h l) (rowB q q.length)
theorem heavyV_nn (hp : openPre h l = 0) (hf : Feas h l) {q : List Nat} (hq : q.length = h.ps.length) (hg : grow 0 q = true) : 0 ≤ heavyV h l q ↔ hangCut h.js q h.ps.length = true := by
  have hn8 := (hulOk (openPre_zero hp).1).n8
  unfold heavyV
  rw [heavyF_iff, hangCut_iff, ← hq]
  constructor
  · intro H j hj
    have := H _ ((rowB_mem (by omega) hg).2 ⟨j, hj, rfl⟩)
    exact (hangW_nn hp hf (blkAt_pos (by omega) hg hj) (by rw [← hq]; exact blkAt_lt j)).1 this
  · intro H x hx
    obtain ⟨j, hj, rfl⟩ := (rowB_mem (by omega) hg).1 hx
    exact (hangW_nn hp hf (blkAt_pos (by omega) hg hj) (by rw [← hq]; exact blkAt_lt j)).2 (H j hj)
theorem heavyV_to (hp : openPre h l = 0) (hf : Feas h l) {q : List Nat} (hq : q.length = h.ps.length) (hg : grow 0 q = true) (hh : hangCut h.js q h.ps.length = true) : heavyV h l q = heavyTo (hangW h l) (rowB q q.length) (rowB q q.length).length :=
  heavyF_ok (heavyF_iff.1 ((heavyV_nn hp hf hq hg).2 hh))
theorem heavyV_bd (hp : openPre h l = 0) (hf : Feas h l) {q : List Nat} (hq : q.length = h.ps.length) (hg : grow 0 q = true) : -1 ≤ heavyV h l q ∧ heavyV h l q ≤ 800000 := by
  have hn8 := (hulOk (openPre_zero hp).1).n8
  refine ⟨heavyF_ge, ?_⟩
  unfold heavyV heavyF
  split
  · rw [heavyTo_le (by omega)]
    intro j hj
    rw [rowB_len (by omega) hg (Nat.le_refl _)] at hj
    rw [rowB_at (by omega) hg hj]
    exact (hangW_bd hp hf (by rw [← hq]; exact blkAt_lt j)).2
  · omega
/-- What the heaviest block says of each block. -/
theorem heavyV_each (hp : openPre h l = 0) (hf : Feas h l) {q : List Nat} (hq : q.length = h.ps.length) (hg : grow 0 q = true) (hh : hangCut h.js q h.ps.length = true) (P : Int → Prop) (key : ∀ S : List Nat, ∀ k, P (heavyTo (hangW h l) S k) ↔ ∀ j, j < k → P (hangW h l (S[j]?.getD 0))) :
    P (heavyV h l q) ↔ ∀ j, j < manyTo (pad q) h.ps.length → P (mostRef h l (blkAt (pad q) h.ps.length j)) := by
  have hn8 := (hulOk (openPre_zero hp).1).n8
  rw [heavyV_to hp hf hq hg hh, key, rowB_len (by omega) hg (Nat.le_refl _), ← hq]
  have e : ∀ j, j < manyTo (pad q) q.length → hangW h l ((rowB q q.length)[j]?.getD 0) = mostRef h l (blkAt (pad q) q.length j) := fun j hj => by
    rw [rowB_at (by omega) hg hj, Option.getD_some]
    unfold hangW
    rw [← hq] at hh
    rw [if_pos ⟨blkAt_pos (by omega) hg hj, hangCut_iff.1 hh j hj⟩]
  exact ⟨fun H j hj => by rw [← e j hj]; exact H j hj, fun H j hj => by rw [e j hj]; exact H j hj⟩
theorem heavyV_le (hp : openPre h l = 0) (hf : Feas h l) {q : List Nat} (hq : q.length = h.ps.length) (hg : grow 0 q = true) (hh : hangCut h.js q h.ps.length = true) {W : Int} (hW : 0 ≤ W) : heavyV h l q ≤ W ↔ ∀ j, j < manyTo (pad q) h.ps.length → mostRef h l (blkAt (pad q) h.ps.length j) ≤ W :=
  heavyV_each hp hf hq hg hh (· ≤ W) fun _ k => heavyTo_le hW k
theorem heavyV_mul (hp : openPre h l = 0) (hf : Feas h l) (hN : IsTree h l N) {q : List Nat} (hq : q.length = h.ps.length) (hg : grow 0 q = true) (hh : hangCut h.js q h.ps.length = true) : heavyV h l q * h.shi ≤ 1000 * h.winch ↔ lightCut h N (pad q) = true := by
  have hr := pre_right hp
  have hs1 := hr.s1
  have hs2 := hr.s2
  have hw1 := hr.w1
  rw [heavyV_each hp hf hq hg hh (· * h.shi ≤ 1000 * h.winch) fun _ k => heavyTo_mul (by omega) (by omega) k, lightCut_all]
  exact ⟨fun H j hj => by rw [mostV_ref hp hN hf (blkAt_lt j)]; exact H j hj, fun H j hj => by rw [← mostV_ref hp hN hf (blkAt_lt j)]; exact H j hj⟩
/-- What the reference asks of a cut is what is good here. -/
theorem qual_ref (hp : openPre h l = 0) (hf : Feas h l) (hN : IsTree h l N) {q : List Nat} (hq : q ∈ allCuts h.ps.length) (m : Nat) : qualB h N m q = (decide (manyTo (pad q) q.length = m) && (decide (0 ≤ heavyV h l q) && decide (heavyV h l q * h.shi ≤ 1000 * h.winch))) := by
  obtain ⟨hl, hg⟩ := allCuts_mem.1 hq
  unfold qualB
  rw [hl]
  congr 1
  by_cases hh : hangCut h.js q h.ps.length = true
  · rw [hh, decide_eq_true ((heavyV_nn hp hf hl hg).2 hh), Bool.true_and, Bool.true_and]
    have := heavyV_mul hp hf hN hl hg hh
    by_cases hc : lightCut h N (pad q) = true
    · rw [hc, decide_eq_true (this.2 hc)]
    · rw [decide_eq_false fun e => hc (this.1 e)]
      simpa using hc
  · rw [decide_eq_false fun e => hh ((heavyV_nn hp hf hl hg).1 e)]
    simp only [Bool.not_eq_true] at hh
    rw [hh]
    rfl
/-- The best of some cuts: the least of their heaviest blocks, or -1. -/
def bestTo (g : List Nat → Int) (ok : List Nat → Bool) (L : List (List Nat)) : Nat → Int
  | 0 => -1
  | k + 1 => match L[k]? with
    | some q => if ok q && (decide (0 ≤ g q) && (decide (bestTo g ok L k < 0) || decide (g q < bestTo g ok L k))) then g q else bestTo g ok L k
    | none => bestTo g ok L k
theorem best_is (g : List Nat → Int) (ok : List Nat → Bool) (L : List (List Nat)) : ∀ k, (bestTo g ok L k = -1 ∧ ∀ j q, j < k → L[j]? = some q → ok q = true → g q < 0) ∨
    (0 ≤ bestTo g ok L k ∧ (∃ j q, j < k ∧ L[j]? = some q ∧ ok q = true ∧ g q = bestTo g ok L k) ∧ ∀ j q, j < k → L[j]? = some q → ok q = true → 0 ≤ g q → bestTo g ok L k ≤ g q) := by
  intro k
  induction k with
  | zero => exact .inl ⟨rfl, fun j q hj => by omega⟩
  | succ k ih =>
    cases hk : L[k]? with
    | none =>
      have e : bestTo g ok L (k + 1) = bestTo g ok L k := by rw [bestTo, hk]
      rw [e]
      have hkk : ∀ j q, j < k + 1 → L[j]? = some q → j < k := fun j q hj hq => by
        rcases Nat.lt_or_ge j k with h1 | h1
        · exact h1
        · obtain rfl : j = k := by omega
          rw [hk] at hq; cases hq
      rcases ih with ⟨a, b⟩ | ⟨a, ⟨j, q, b1, b2, b3, b4⟩, c⟩
      · exact .inl ⟨a, fun j q hj hq => b j q (hkk j q hj hq) hq⟩
      · exact .inr ⟨a, ⟨j, q, by omega, b2, b3, b4⟩, fun j q hj hq => c j q (hkk j q hj hq) hq⟩
    | some x =>
      have e : bestTo g ok L (k + 1) = if ok x && (decide (0 ≤ g x) && (decide (bestTo g ok L k < 0) || decide (g x < bestTo g ok L k))) then g x else bestTo g ok L k := by rw [bestTo, hk]
      rw [e]
      have hkk : ∀ j q, j < k + 1 → L[j]? = some q → j < k ∨ q = x := fun j q hj hq => by
        rcases Nat.lt_or_ge j k with h1 | h1
        · exact .inl h1
        · obtain rfl : j = k := by omega
          rw [hk] at hq
          exact .inr (by injection hq with hq; exact hq.symm)
      split
      · rename_i hc
        simp only [Bool.and_eq_true, Bool.or_eq_true, decide_eq_true_eq] at hc
        obtain ⟨h1, h2, h3⟩ := hc
        refine .inr ⟨h2, ⟨k, x, by omega, hk, h1, rfl⟩, fun j q hj hq ho hn => ?_⟩
        rcases hkk j q hj hq with h4 | rfl
        · rcases ih with ⟨_, b⟩ | ⟨a, _, c⟩
          · have := b j q h4 hq ho; omega
          · have := c j q h4 hq ho hn; omega
        · exact Int.le_refl _
      · rename_i hc
        simp only [Bool.and_eq_true, Bool.or_eq_true, decide_eq_true_eq, not_and, not_or] at hc
        rcases ih with ⟨a, b⟩ | ⟨a, ⟨j, q, b1, b2, b3, b4⟩, c⟩
        · refine .inl ⟨a, fun j q hj hq ho => ?_⟩
          rcases hkk j q hj hq with h4 | rfl
          · exact b j q h4 hq ho
          · rcases Int.lt_or_le (g q) 0 with h5 | h5
            · exact h5
            · have := (hc ho h5).1; omega
        · refine .inr ⟨a, ⟨j, q, by omega, b2, b3, b4⟩, fun j q hj hq ho hn => ?_⟩
          rcases hkk j q hj hq with h4 | rfl
          · exact c j q h4 hq ho hn
          · have := (hc ho hn).2; omega
/-- The lightest heaviest block. -/
theorem best_light (hp : openPre h l = 0) (hf : Feas h l) (hN : IsTree h l N) (hb : 1 ≤ b) : bestTo (heavyV h l) (fun q => decide (manyTo (pad q) q.length ≤ b)) (allCuts h.ps.length) (allCuts h.ps.length).length = if lightW h N b ≤ h.ps.length * 100000 then (lightW h N b : Int) else -1 := by
  have hcan : ∀ k : Nat, canF h N b (k : Int) = true ↔ ∃ q ∈ allCuts h.ps.length, manyTo (pad q) q.length ≤ b ∧ 0 ≤ heavyV h l q ∧ heavyV h l q ≤ k := fun k => by
    rw [canF_iff]
    constructor
    · rintro ⟨C, hC, hj⟩
      obtain ⟨a, c⟩ := (cuts_b hb).1 hC
      rw [cutsL_all] at a
      obtain ⟨q, hq, rfl⟩ := List.mem_map.1 a
      obtain ⟨q1, q2⟩ := List.mem_filter.1 hq
      obtain ⟨hl, hg⟩ := allCuts_mem.1 q1
      refine ⟨q, q1, by rw [hl]; exact c, (heavyV_nn hp hf hl hg).2 q2, (heavyV_le hp hf hl hg q2 (by omega)).2 fun j hjm => ?_⟩
      rw [← mostV_ref hp hN hf (blkAt_lt j)]
      exact hj j hjm
    · rintro ⟨q, hq, h1, h2, h3⟩
      obtain ⟨hl, hg⟩ := allCuts_mem.1 hq
      have hh := (heavyV_nn hp hf hl hg).1 h2
      refine ⟨pad q, (cuts_b hb).2 ⟨by rw [cutsL_all]; exact List.mem_map.2 ⟨q, List.mem_filter.2 ⟨hq, hh⟩, rfl⟩, by rw [← hl]; exact h1⟩, fun j hj => ?_⟩
      rw [mostV_ref hp hN hf (blkAt_lt j)]
      exact (heavyV_le hp hf hl hg hh (by omega)).1 h3 j hj
  have hbi := best_is (heavyV h l) (fun q => decide (manyTo (pad q) q.length ≤ b)) (allCuts h.ps.length) (allCuts h.ps.length).length
  generalize bestTo (heavyV h l) (fun q => decide (manyTo (pad q) q.length ≤ b)) (allCuts h.ps.length) (allCuts h.ps.length).length = v at hbi ⊢
  rcases hbi with ⟨rfl, hno⟩ | ⟨h0, ⟨j, q, hj, hq, ho, hv⟩, hmin⟩
  · rw [if_neg]
    intro hle
    obtain ⟨q, hq, h1, h2, _⟩ := (hcan _).1 (lightW_min.2 hle)
    obtain ⟨j, hj⟩ := List.getElem?_of_mem hq
    have := hno j q (List.getElem?_eq_some_iff.1 hj).1 hj (decide_eq_true h1)
    omega
  · obtain ⟨V, rfl⟩ : ∃ V : Nat, v = V := ⟨v.toNat, by omega⟩
    have hc : canF h N b (V : Int) = true := (hcan V).2 ⟨q, List.mem_of_getElem? hq, of_decide_eq_true ho, by omega, by omega⟩
    have h1 := lightW_of hc
    obtain ⟨C, hC, _⟩ := canF_iff.1 hc
    have h2 := lightW_cut hp hN hf hC
    rw [if_pos h2]
    obtain ⟨q', hq', k1, k2, k3⟩ := (hcan _).1 (lightW_min.2 h2)
    obtain ⟨j', hj'⟩ := List.getElem?_of_mem hq'
    have := hmin j' q' (List.getElem?_eq_some_iff.1 hj').1 hj' (decide_eq_true k1) k2
    omega
end
end Go.Proofs.Ytojgdallodmanaa
