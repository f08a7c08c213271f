/- What claims get: the plain side of claim.pay. -/
import Derived.Test.YtblbbhenmhkknaaZ79a1bb
namespace Go.Proofs.Ytblbbhenmhkknaa
open Go.RowKit

/-- What the claims of the first ranks are together. -/
def upToR (l : List Cl3) : Nat → Int
  | 0 => 0
  | r + 1 => upToR l r + sumR Cl3.lo l r
/-- What a claim gets. -/
def payAt (l : List Cl3) (P : Int) (c : Cl3) : Int :=
  if upToR l c.rank.toNat + sumR Cl3.lo l c.rank ≤ P then c.lo else (if upToR l c.rank.toNat ≤ P then (P - upToR l c.rank.toNat) * c.lo / sumR Cl3.lo l c.rank else 0)
/-- What all get of which the ranks are below r, and the first i of rank r. -/
def paysMid (l : List Cl3) (P : Int) (r i : Nat) : List Int := l.mapIdx fun j c => if c.rank < (r : Int) ∨ (c.rank = (r : Int) ∧ j < i) then payAt l P c else 0
def paysTo (l : List Cl3) (P : Int) (r : Nat) : List Int := paysMid l P r 0
def pays (l : List Cl3) (P : Int) : List Int := l.map (payAt l P)

theorem paysMid_len (l : List Cl3) (P : Int) (r i : Nat) : (paysMid l P r i).length = l.length := by simp [paysMid]
theorem paysMid_all (l : List Cl3) (P : Int) (r : Nat) : paysMid l P r l.length = paysTo l P (r + 1) := by
  unfold paysTo paysMid
  apply List.ext_getElem?
  intro j
  simp only [List.getElem?_mapIdx]
  rcases Nat.lt_or_ge j l.length with h | h
  · rw [List.getElem?_eq_getElem h]
    simp only [Option.map_some]
    by_cases e : l[j].rank < (r : Int) + 1
    · rw [if_pos (by omega), if_pos (by omega)]
    · rw [if_neg (by omega), if_neg (by omega)]
  · rw [List.getElem?_eq_none h]; rfl
theorem paysMid_skip {l : List Cl3} {P : Int} {r i : Nat} {c : Cl3} (h : l[i]? = some c) (hr : c.rank ≠ r) : paysMid l P r (i + 1) = paysMid l P r i := by
  unfold paysMid
  apply List.ext_getElem?
  intro j
  simp only [List.getElem?_mapIdx]
  cases hj : l[j]? with
  | none => rfl
  | some x =>
    simp only [Option.map_some]
    by_cases e : j = i
    · subst e
      rw [h] at hj
      injection hj with hj
      subst hj
      by_cases e2 : c.rank < (r : Int)
      · rw [if_pos (.inl e2), if_pos (.inl e2)]
      · rw [if_neg (by omega), if_neg (by omega)]
    · by_cases e2 : x.rank < (r : Int) ∨ (x.rank = (r : Int) ∧ j < i)
      · rw [if_pos (by omega), if_pos e2]
      · rw [if_neg (by omega), if_neg e2]
theorem paysMid_set {l : List Cl3} {P : Int} {r i : Nat} {c : Cl3} (h : l[i]? = some c) (hr : c.rank = r) : paysMid l P r (i + 1) = (paysMid l P r i).set i (payAt l P c) := by
  apply List.ext_getElem?
  intro j
  have hi := (List.getElem?_eq_some_iff.1 h).1
  by_cases e : i = j
  · subst e
    rw [List.getElem?_set_self (by rw [paysMid_len]; exact hi)]
    simp [paysMid, List.getElem?_mapIdx, h, hr]
  · rw [List.getElem?_set_ne e]
    simp only [paysMid, List.getElem?_mapIdx]
    cases hj : l[j]? with
    | none => rfl
    | some x =>
      simp only [Option.map_some]
      by_cases e2 : x.rank < (r : Int) ∨ (x.rank = (r : Int) ∧ j < i)
      · rw [if_pos (by omega), if_pos e2]
      · rw [if_neg (by omega), if_neg e2]
theorem paysMid_at {l : List Cl3} {P : Int} {r i : Nat} {c : Cl3} (h : l[i]? = some c) (hr : c.rank = r) : (paysMid l P r i)[i]? = some 0 := by
  simp [paysMid, List.getElem?_mapIdx, h, hr]
theorem sum_set {l : List Int} {i : Nat} {x : Int} (h : l[i]? = some 0) : (l.set i x).sum = l.sum + x := by
  induction l generalizing i with
  | nil => simp at h
  | cons y l ih =>
    cases i with
    | zero => simp at h; subst h; simp; omega
    | succ i => simp at h; simp [ih h]; omega
theorem sum_bound {l : List Int} {b : Int} (h : ∀ x ∈ l, 0 ≤ x ∧ x ≤ b) : 0 ≤ l.sum ∧ l.sum ≤ l.length * b := by
  induction l with
  | nil => simp
  | cons y l ih =>
    have h1 := ih fun x hx => h x (by simp [hx])
    have h2 := h y (by simp)
    simp only [List.sum_cons, List.length_cons]
    have : ((l.length + 1 : Nat) : Int) * b = l.length * b + b := by rw [Int.natCast_add, Int.add_mul]; simp
    omega
theorem upToR_nonneg (l : List Cl3) (hok : C3Ok l) : ∀ r, 0 ≤ upToR l r := by
  intro r
  induction r with
  | zero => simp [upToR]
  | succ r ih =>
    have := (sumR_bound (f := Cl3.lo) l r fun x hx => ⟨(hok x hx).2.2.1, (hok x hx).2.2.2.1⟩).1
    simp only [upToR]; omega
theorem sumR_ge {f : Cl3 → Int} : ∀ (l : List Cl3), (∀ x ∈ l, 0 ≤ f x) → ∀ c ∈ l, f c ≤ sumR f l c.rank := by
  intro l
  induction l with
  | nil => intro _ c hc; simp at hc
  | cons x l ih =>
    intro h c hc
    have hnn : 0 ≤ sumR f l c.rank := by
      clear ih hc
      induction l with
      | nil => simp [sumR]
      | cons y l ih2 =>
        have := ih2 fun z hz => h z (by rcases List.mem_cons.1 hz with e | e <;> simp [e])
        have h3 := h y (by simp)
        unfold sumR at *
        simp only [List.map_cons, List.sum_cons]
        split <;> omega
    have e : sumR f (x :: l) c.rank = (if x.rank = c.rank then f x else 0) + sumR f l c.rank := by simp [sumR]
    rw [e]
    have hx := h x (by simp)
    rcases List.mem_cons.1 hc with rfl | hc
    · rw [if_pos rfl]; omega
    · have := ih (fun y hy => h y (by simp [hy])) c hc
      split <;> omega
theorem payAt_bound {l : List Cl3} {P : Int} {c : Cl3} (hok : C3Ok l) (hc : c ∈ l) : 0 ≤ payAt l P c ∧ payAt l P c ≤ c.lo := by
  have h := hok c hc
  have hlo : ∀ x ∈ l, 0 ≤ x.lo := fun x hx => (hok x hx).2.2.1
  have hge := sumR_ge l hlo c hc
  unfold payAt
  split
  · omega
  · split
    · rename_i h1 h2
      obtain ⟨U, hU⟩ : ∃ U, upToR l c.rank.toNat = U := ⟨_, rfl⟩
      obtain ⟨S, hS⟩ : ∃ S, sumR Cl3.lo l c.rank = S := ⟨_, rfl⟩
      rw [hU, hS]
      rw [hU, hS] at h1
      rw [hU] at h2
      rw [hS] at hge
      have hS0 : 0 < S := by omega
      refine ⟨Int.ediv_nonneg (Int.mul_nonneg (by omega) h.2.2.1) (by omega), ?_⟩
      have h3 : (P - U) * c.lo ≤ S * c.lo := Int.mul_le_mul_of_nonneg_right (by omega) h.2.2.1
      calc (P - U) * c.lo / S ≤ S * c.lo / S := Int.ediv_le_ediv hS0 h3
        _ = c.lo := Int.mul_ediv_cancel_left _ (by omega)
    · omega
theorem paysMid_bound {l : List Cl3} {P : Int} {r i : Nat} (hok : C3Ok l) : ∀ x ∈ paysMid l P r i, 0 ≤ x ∧ x ≤ 1000000000 := by
  intro x hx
  obtain ⟨j, hj⟩ := List.getElem?_of_mem hx
  simp only [paysMid, List.getElem?_mapIdx] at hj
  cases h : l[j]? with
  | none => rw [h] at hj; simp at hj
  | some c =>
    rw [h] at hj
    simp only [Option.map_some, Option.some.injEq] at hj
    have hc := List.mem_of_getElem? h
    have := payAt_bound (P := P) hok hc
    have := (hok c hc).2.2.2.1
    split at hj <;> omega
theorem paysMid_sum {l : List Cl3} {P : Int} {r i : Nat} (hok : C3Ok l) (hm : l.length ≤ 9) : 0 ≤ (paysMid l P r i).sum ∧ (paysMid l P r i).sum ≤ 9000000000 := by
  have := sum_bound (paysMid_bound (P := P) (r := r) (i := i) hok)
  rw [paysMid_len] at this
  omega
theorem paysTo_zeroL (l : List Cl3) (P : Int) (hok : C3Ok l) : paysTo l P 0 = List.replicate l.length 0 := by
  rw [List.eq_replicate_iff]
  refine ⟨by rw [paysTo, paysMid_len], fun x hx => ?_⟩
  obtain ⟨j, hj⟩ := List.getElem?_of_mem hx
  simp only [paysTo, paysMid, List.getElem?_mapIdx] at hj
  cases h : l[j]? with
  | none => rw [h] at hj; simp at hj
  | some c =>
    rw [h] at hj
    simp only [Option.map_some, Option.some.injEq] at hj
    have := (hok c (List.mem_of_getElem? h)).1
    rw [if_neg (by omega)] at hj
    exact hj.symm
theorem paysTo_zero (l : List Cl3) (P : Int) (hok : C3Ok l) : (paysTo l P 0).map iv = List.replicate l.length (.int .i64 0) := by
  rw [paysTo_zeroL l P hok]; simp
theorem paysTo_sum0 (l : List Cl3) (P : Int) (hok : C3Ok l) : (paysTo l P 0).sum = 0 := by
  rw [paysTo_zeroL l P hok]; simp
theorem paysTo_all (l : List Cl3) (P : Int) (hok : C3Ok l) : paysTo l P 6 = pays l P := by
  unfold paysTo paysMid pays
  apply List.ext_getElem?
  intro j
  simp only [List.getElem?_mapIdx, List.getElem?_map]
  cases h : l[j]? with
  | none => rfl
  | some c =>
    have := (hok c (List.mem_of_getElem? h)).2.1
    simp only [Option.map_some]
    rw [if_pos (by omega)]
/-- Where the money has run out at a rank, the later ones get nothing. -/
theorem paysTo_out {l : List Cl3} {P : Int} {r : Nat} (hok : C3Ok l) (h : P < upToR l (r + 1)) : paysTo l P (r + 1) = pays l P := by
  have hmono : ∀ d q, upToR l q ≤ upToR l (q + d) := by
    intro d
    induction d with
    | zero => intro q; exact Int.le_refl _
    | succ d ih =>
      intro q
      have := (sumR_bound (f := Cl3.lo) l (q + d : Nat) fun x hx => ⟨(hok x hx).2.2.1, (hok x hx).2.2.2.1⟩).1
      have h2 := ih q
      have e : upToR l (q + (d + 1)) = upToR l (q + d) + sumR Cl3.lo l (q + d : Nat) := rfl
      omega
  unfold paysTo paysMid pays
  apply List.ext_getElem?
  intro j
  simp only [List.getElem?_mapIdx, List.getElem?_map]
  cases hj : l[j]? with
  | none => rfl
  | some c =>
    have hc := hok c (List.mem_of_getElem? hj)
    simp only [Option.map_some]
    by_cases e : c.rank < ((r + 1 : Nat) : Int)
    · rw [if_pos (.inl e)]
    · rw [if_neg (by omega)]
      have h1 := hmono (c.rank.toNat - (r + 1)) (r + 1)
      rw [show r + 1 + (c.rank.toNat - (r + 1)) = c.rank.toNat from by omega] at h1
      have h2 := (sumR_bound (f := Cl3.lo) l c.rank fun x hx => ⟨(hok x hx).2.2.1, (hok x hx).2.2.2.1⟩).1
      unfold payAt
      rw [if_neg (by omega), if_neg (by omega)]
end Go.Proofs.Ytblbbhenmhkknaa
