/- Plain laws of what claims get: what it rises and falls with. No program is walked here. Plain laws: the ranges, who is surely paid, the least proceeds. No program is walked here. Plain laws: what all claims get, together. No program is walked here. -/
import Derived.Test.YtblbbhenmhkknaaYW32
import Derived.Test.YtblbbhenmhkknaaYP1
namespace Go.Proofs.Ytblbbhenmhkknaa
open Go.RowKit

/-- What a claim of x gets if D is left for its rank, in which the others claim R. -/
def gP (D R x : Int) : Int := if x + R ≤ D then x else (if 0 ≤ D then D * x / (x + R) else 0)
theorem div_le_of {a b q : Int} (hb : 0 < b) (h : a ≤ q * b) : a / b ≤ q := by
  have := Int.ediv_le_ediv hb h
  rwa [Int.mul_ediv_cancel _ (by omega)] at this
theorem le_div_of {a b q : Int} (hb : 0 < b) (h : q * b ≤ a) : q ≤ a / b := by
  have := Int.ediv_le_ediv hb h
  rwa [Int.mul_ediv_cancel _ (by omega)] at this
theorem gP_nonneg {D R x : Int} (hR : 0 ≤ R) (hx : 0 ≤ x) : 0 ≤ gP D R x := by
  unfold gP
  split
  · exact hx
  · split
    · exact Int.ediv_nonneg (Int.mul_nonneg (by omega) hx) (by omega)
    · omega
theorem gP_le {D R x : Int} (hx : 0 ≤ x) : gP D R x ≤ x := by
  unfold gP
  split
  · omega
  · split
    · rename_i h1 h2
      refine div_le_of (by omega) ?_
      rw [Int.mul_comm x]
      exact Int.mul_le_mul_of_nonneg_right (by omega) hx
    · exact hx
theorem gP_D {D D' R x : Int} (hR : 0 ≤ R) (hx : 0 ≤ x) (h : D ≤ D') : gP D R x ≤ gP D' R x := by
  by_cases h1 : x + R ≤ D'
  · have e : gP D' R x = x := by unfold gP; rw [if_pos h1]
    rw [e]; exact gP_le hx
  · by_cases h0 : 0 ≤ D
    · unfold gP
      rw [if_neg (show ¬ x + R ≤ D by omega), if_neg h1, if_pos h0, if_pos (by omega)]
      exact Int.ediv_le_ediv (by omega) (Int.mul_le_mul_of_nonneg_right h hx)
    · have e : gP D R x = 0 := by unfold gP; rw [if_neg (by omega), if_neg h0]
      rw [e]; exact gP_nonneg hR hx
theorem gP_R {D R R' x : Int} (hR : 0 ≤ R') (hx : 0 ≤ x) (h : R' ≤ R) : gP D R x ≤ gP D R' x := by
  by_cases h1 : x + R' ≤ D
  · have e : gP D R' x = x := by unfold gP; rw [if_pos h1]
    rw [e]; exact gP_le hx
  · by_cases h0 : 0 ≤ D
    · unfold gP
      rw [if_neg (show ¬ x + R ≤ D by omega), if_neg h1, if_pos h0, if_pos h0]
      have hS : 0 < x + R := by omega
      refine le_div_of (by omega) ?_
      have h2 : D * x / (x + R) * (x + R) ≤ D * x := Int.ediv_mul_le _ (by omega)
      have h3 : 0 ≤ D * x / (x + R) := Int.ediv_nonneg (Int.mul_nonneg h0 hx) (by omega)
      have h4 : D * x / (x + R) * (x + R') ≤ D * x / (x + R) * (x + R) := Int.mul_le_mul_of_nonneg_left (by omega) h3
      omega
    · have e : gP D R x = 0 := by unfold gP; rw [if_neg (by omega), if_neg h0]
      rw [e]; exact gP_nonneg hR hx
theorem gP_x {D R x x' : Int} (hR : 0 ≤ R) (hx : 0 ≤ x) (h : x ≤ x') : gP D R x ≤ gP D R x' := by
  by_cases h1 : x' + R ≤ D
  · have e : gP D R x' = x' := by unfold gP; rw [if_pos h1]
    have := gP_le (D := D) (R := R) hx
    omega
  · by_cases h0 : 0 ≤ D
    · have e : gP D R x' = D * x' / (x' + R) := by unfold gP; rw [if_neg h1, if_pos h0]
      rw [e]
      by_cases h2 : x + R ≤ D
      · have e2 : gP D R x = x := by unfold gP; rw [if_pos h2]
        rw [e2]
        refine le_div_of (by omega) ?_
        have h3 : (x + R) * x' ≤ D * x' := Int.mul_le_mul_of_nonneg_right h2 (by omega)
        have h4 : x * R ≤ R * x' := by rw [Int.mul_comm x R]; exact Int.mul_le_mul_of_nonneg_left h hR
        have e3 : (x + R) * x' = x * x' + R * x' := Int.add_mul _ _ _
        have e4 : x * (x' + R) = x * x' + x * R := Int.mul_add _ _ _
        omega
      · have e2 : gP D R x = D * x / (x + R) := by unfold gP; rw [if_neg h2, if_pos h0]
        rw [e2]
        refine le_div_of (by omega) ?_
        have hq : D * x / (x + R) * (x + R) ≤ D * x := Int.ediv_mul_le _ (by omega)
        have hqD : D * x / (x + R) ≤ D := div_le_of (by omega) (Int.mul_le_mul_of_nonneg_left (by omega) h0)
        obtain ⟨q, hqq⟩ : ∃ q, D * x / (x + R) = q := ⟨_, rfl⟩
        rw [hqq] at hq hqD ⊢
        have h5 : q * (x' - x) ≤ D * (x' - x) := Int.mul_le_mul_of_nonneg_right hqD (by omega)
        have e5 : q * (x' + R) = q * (x + R) + q * (x' - x) := by rw [← Int.mul_add]; congr 1; omega
        have e6 : D * x' = D * x + D * (x' - x) := by rw [← Int.mul_add]; congr 1; omega
        omega
    · have e : gP D R x = 0 := by unfold gP; rw [if_neg (by omega), if_neg h0]
      rw [e]; exact gP_nonneg hR (by omega)
theorem gP_mono {D D' R R' x x' : Int} (hR : 0 ≤ R') (hx : 0 ≤ x) (hD : D ≤ D') (hRR : R' ≤ R) (hxx : x ≤ x') : gP D R x ≤ gP D' R' x' :=
  Int.le_trans (gP_D (by omega) hx hD) (Int.le_trans (gP_R hR hx hRR) (gP_x hR hx hxx))

/-! The sums without one claim. -/
theorem sumR_mid (f : Cl3 → Int) (a b : List Cl3) (c : Cl3) (r : Int) : sumR f (a ++ c :: b) r = sumR f (a ++ b) r + if c.rank = r then f c else 0 := by
  unfold sumR
  simp only [List.map_append, List.sum_append, List.map_cons, List.sum_cons]
  omega
theorem upToR_mid (a b : List Cl3) (c : Cl3) : ∀ r : Nat, (r : Int) ≤ c.rank → upToR (a ++ c :: b) r = upToR (a ++ b) r := by
  intro r
  induction r with
  | zero => intro _; rfl
  | succ r ih =>
    intro h
    simp only [upToR]
    rw [ih (by omega), sumR_mid, if_neg (by omega), Int.add_zero]
theorem payAt_mid {a b : List Cl3} {c : Cl3} {P : Int} (h0 : 0 ≤ c.rank) : payAt (a ++ c :: b) P c = gP (P - upToR (a ++ b) c.rank.toNat) (sumR Cl3.lo (a ++ b) c.rank) c.lo := by
  unfold payAt gP
  rw [upToR_mid a b c _ (by omega), sumR_mid, if_pos rfl]
  obtain ⟨u, hu⟩ : ∃ u, upToR (a ++ b) c.rank.toNat = u := ⟨_, rfl⟩
  obtain ⟨s, hs⟩ : ∃ s, sumR Cl3.lo (a ++ b) c.rank = s := ⟨_, rfl⟩
  obtain ⟨x, hx⟩ : ∃ x, c.lo = x := ⟨_, rfl⟩
  rw [hu, hs, hx]
  by_cases h1 : u + (s + x) ≤ P
  · rw [if_pos h1, if_pos (show x + s ≤ P - u by omega)]
  · rw [if_neg h1, if_neg (show ¬ x + s ≤ P - u by omega)]
    by_cases h2 : u ≤ P
    · rw [if_pos h2, if_pos (show 0 ≤ P - u by omega), Int.add_comm x s]
    · rw [if_neg h2, if_neg (show ¬ 0 ≤ P - u by omega)]
/-- Claims of the same ranks, each at most as much. -/
def Le3 : List Cl3 → List Cl3 → Prop
  | [], [] => True
  | x :: a, y :: b => (x.rank = y.rank ∧ x.lo ≤ y.lo) ∧ Le3 a b
  | _, _ => False
theorem Le3.sumR : ∀ {a b : List Cl3}, Le3 a b → ∀ (r : Int), sumR Cl3.lo a r ≤ sumR Cl3.lo b r := by
  intro a
  induction a with
  | nil => intro b h r; cases b with
    | nil => exact Int.le_refl _
    | cons y b => exact h.elim
  | cons x a ih => intro b h r; cases b with
    | nil => exact h.elim
    | cons y b =>
      have h2 := ih h.2 r
      have hxy := h.1
      unfold Ytblbbhenmhkknaa.sumR at *
      simp only [List.map_cons, List.sum_cons]
      rw [hxy.1]
      split <;> omega
theorem Le3.append : ∀ {a b c d : List Cl3}, Le3 a b → Le3 c d → Le3 (a ++ c) (b ++ d) := by
  intro a
  induction a with
  | nil => intro b c d h k; cases b with
    | nil => exact k
    | cons y b => exact h.elim
  | cons x a ih => intro b c d h k; cases b with
    | nil => exact h.elim
    | cons y b => exact ⟨h.1, ih h.2 k⟩
theorem Le3.of_get : ∀ {a b : List Cl3}, a.length = b.length → (∀ (i : Nat) (x y : Cl3), a[i]? = some x → b[i]? = some y → x.rank = y.rank ∧ x.lo ≤ y.lo) → Le3 a b := by
  intro a
  induction a with
  | nil => intro b hl _; cases b with
    | nil => trivial
    | cons y b => simp at hl
  | cons x a ih => intro b hl h; cases b with
    | nil => simp at hl
    | cons y b => exact ⟨h 0 x y rfl rfl, ih (by simpa using hl) fun i u v hu hv => h (i + 1) u v (by simpa using hu) (by simpa using hv)⟩
theorem Le3.upToR {a b : List Cl3} (h : Le3 a b) : ∀ r, upToR a r ≤ upToR b r := by
  intro r
  induction r with
  | zero => exact Int.le_refl _
  | succ r ih =>
    have := h.sumR r
    simp only [Ytblbbhenmhkknaa.upToR]
    omega
theorem sumR_nonneg {l : List Cl3} (h : ∀ x ∈ l, 0 ≤ x.lo) (r : Int) : 0 ≤ sumR Cl3.lo l r := by
  induction l with
  | nil => simp [sumR]
  | cons x l ih =>
    have := ih fun y hy => h y (by simp [hy])
    have := h x (by simp)
    unfold sumR at *
    simp only [List.map_cons, List.sum_cons]
    split <;> omega
/-- With more proceeds, more cents of its own, and less of the others, a claim gets no less. -/
theorem pay_mono {a b a' b' : List Cl3} {c c' : Cl3} {P P' : Int} (h0 : 0 ≤ c.rank) (hr : c.rank = c'.rank) (hx : 0 ≤ c.lo) (hxx : c.lo ≤ c'.lo) (hP : P ≤ P') (hn : ∀ x ∈ a' ++ b', 0 ≤ x.lo) (h : Le3 (a' ++ b') (a ++ b)) :
    payAt (a ++ c :: b) P c ≤ payAt (a' ++ c' :: b') P' c' := by
  rw [payAt_mid h0, payAt_mid (by omega), ← hr]
  have h1 := h.upToR c.rank.toNat
  exact gP_mono (sumR_nonneg hn _) hx (by omega) (h.sumR _) hxx

theorem split_at {α : Type} {l : List α} {i : Nat} {x : α} (h : l[i]? = some x) : l = l.take i ++ x :: l.drop (i + 1) := by
  obtain ⟨hi, rfl⟩ := List.getElem?_eq_some_iff.1 h
  rw [List.getElem_cons_drop hi, List.take_append_drop]
/-- Two lists of claims of the same ranks. -/
theorem justL_split {L : List Cl3} {d : Nat → Int} {i : Nat} {c : Cl3} (h : L[i]? = some c) : (justL L d)[i]? = some ⟨c.rank, d i, d i⟩ := by
  simp [justL, List.getElem?_mapIdx, h]
theorem Le3.justL {L : List Cl3} {d d' : Nat → Int} {i : Nat} (h : ∀ j, j < L.length → j ≠ i → d j ≤ d' j) : Le3 ((justL L d).take i ++ (justL L d).drop (i + 1)) ((Ytblbbhenmhkknaa.justL L d').take i ++ (Ytblbbhenmhkknaa.justL L d').drop (i + 1)) := by
  have hl : ∀ d, (Ytblbbhenmhkknaa.justL L d).length = L.length := fun d => justL_len L d
  have hget : ∀ (d : Nat → Int) (j : Nat) (x : Cl3), (Ytblbbhenmhkknaa.justL L d)[j]? = some x → ∃ c, L[j]? = some c ∧ x = ⟨c.rank, d j, d j⟩ := fun d j x hx => by
    simp only [Ytblbbhenmhkknaa.justL, List.getElem?_mapIdx] at hx
    cases hc : L[j]? with
    | none => rw [hc] at hx; simp at hx
    | some c =>
      rw [hc] at hx
      simp only [Option.map_some, Option.some.injEq] at hx
      exact ⟨c, rfl, hx.symm⟩
  have key : ∀ (j : Nat) (x y : Cl3), j ≠ i → (Ytblbbhenmhkknaa.justL L d)[j]? = some x → (Ytblbbhenmhkknaa.justL L d')[j]? = some y → x.rank = y.rank ∧ x.lo ≤ y.lo := fun j x y hj hx hy => by
    obtain ⟨c, hc, rfl⟩ := hget d j x hx
    obtain ⟨c', hc', rfl⟩ := hget d' j y hy
    rw [hc] at hc'
    injection hc' with hc'
    subst hc'
    exact ⟨rfl, h j (List.getElem?_eq_some_iff.1 hc).1 hj⟩
  refine Le3.append ?_ ?_
  · refine Le3.of_get (by rw [List.length_take, List.length_take, hl, hl]) fun j x y hx hy => ?_
    rw [List.getElem?_take] at hx hy
    split at hx
    · rename_i hji
      rw [if_pos hji] at hy
      exact key j x y (by omega) hx hy
    · cases hx
  · refine Le3.of_get (by rw [List.length_drop, List.length_drop, hl, hl]) fun j x y hx hy => ?_
    rw [List.getElem?_drop] at hx hy
    exact key (i + 1 + j) x y (by omega) hx hy
theorem justL_nonneg {L : List Cl3} {d : Nat → Int} {i : Nat} (h : ∀ j, j < L.length → 0 ≤ d j) : ∀ x ∈ (justL L d).take i ++ (justL L d).drop (i + 1), 0 ≤ x.lo := by
  intro x hx
  have hm : x ∈ justL L d := by
    rcases List.mem_append.1 hx with hx | hx
    · exact List.mem_of_mem_take hx
    · exact List.mem_of_mem_drop hx
  obtain ⟨j, hj⟩ := List.getElem?_of_mem hm
  simp only [justL, List.getElem?_mapIdx] at hj
  cases hc : L[j]? with
  | none => rw [hc] at hj; simp at hj
  | some c =>
    rw [hc] at hj
    simp only [Option.map_some, Option.some.injEq] at hj
    subst hj
    exact h j (List.getElem?_eq_some_iff.1 hc).1
/-- The same, of claims of just so many cents. -/
theorem payJ_mono {L : List Cl3} {d d' : Nat → Int} {P P' : Int} {i : Nat} {c : Cl3} (hc : L[i]? = some c) (h0 : 0 ≤ c.rank) (hx : 0 ≤ d i) (hxx : d i ≤ d' i) (hP : P ≤ P') (hn : ∀ j, j < L.length → 0 ≤ d' j) (h : ∀ j, j < L.length → j ≠ i → d' j ≤ d j) :
    payAt (justL L d) P ⟨c.rank, d i, d i⟩ ≤ payAt (justL L d') P' ⟨c.rank, d' i, d' i⟩ := by
  have e1 := split_at (justL_split (d := d) hc)
  have e2 := split_at (justL_split (d := d') hc)
  rw [e1, e2]
  exact pay_mono h0 rfl hx hxx hP (justL_nonneg hn) (Le3.justL h)
end Go.Proofs.Ytblbbhenmhkknaa

namespace Go.Proofs.Ytblbbhenmhkknaa
open Go.RowKit

theorem shareV_at {L : List Cl3} {d : Nat → Int} {P : Int} {i : Nat} {c : Cl3} (h : L[i]? = some c) : shareV L d P i = payAt (justL L d) P ⟨c.rank, d i, d i⟩ := by
  unfold shareV
  rw [List.getD_eq_getElem?_getD, pays_get (justL_split h)]
  rfl
theorem l3_at {cs : List Clm} {i : Nat} {c : Clm} (h : cs[i]? = some c) : (cs.map c3)[i]? = some (c3 c) := by simp [h]
theorem jl_eq (cs : List Clm) (ds : List Int) : jl cs ds = justL (cs.map c3) fun i => ds.getD i 0 := rfl
theorem getD_at {ds : List Int} {i : Nat} {d : Int} (h : ds[i]? = some d) : ds.getD i 0 = d := by rw [List.getD_eq_getElem?_getD, h]; rfl
theorem TruthOk.at_ {lo hi : Int} {cs : List Clm} {P : Int} {ds : List Int} (h : TruthOk lo hi cs P ds) {i : Nat} (hi : i < (cs.map c3).length) : ∃ c d, cs[i]? = some c ∧ ds[i]? = some d ∧ c.lo ≤ d ∧ d ≤ c.hi ∧ 0 ≤ c.lo ∧ c.hi ≤ 1000000000 ∧ 1 ≤ c.rank ∧ c.rank ≤ 5 ∧ (cs.map c3)[i]? = some (c3 c) ∧ ds.getD i 0 = d := by
  rw [List.length_map] at hi
  obtain ⟨c, hc⟩ : ∃ c, cs[i]? = some c := ⟨_, List.getElem?_eq_getElem hi⟩
  obtain ⟨d, hd⟩ : ∃ d, ds[i]? = some d := ⟨_, List.getElem?_eq_getElem (by rw [h.len]; exact hi)⟩
  have h1 := h.cents i c d hc hd
  have h2 := (est_ok h.est).each c (List.mem_of_getElem? hc)
  exact ⟨c, d, hc, hd, h1.1, h1.2, h2.2.2.2.1, h2.2.2.2.2.2, h2.2.1, h2.2.2.1, l3_at hc, getD_at hd⟩
theorem dLo_at {L : List Cl3} {i j : Nat} {c : Cl3} (h : L[j]? = some c) : dLo L i j = if j = i then c.lo else c.hi := by simp [dLo, h]
theorem dHi_at {L : List Cl3} {i j : Nat} {c : Cl3} (h : L[j]? = some c) : dHi L i j = if j = i then c.hi else c.lo := by simp [dHi, h]

theorem true_low {lo hi : Int} {cs : List Clm} {P : Int} {ds : List Int} (h : TruthOk lo hi cs P ds) {i : Nat} {c : Clm} {d : Int} (hc : cs[i]? = some c) (hd : ds[i]? = some d) :
    shareV (cs.map c3) (dLo (cs.map c3) i) lo i ≤ payAt (jl cs ds) P ⟨c.rank, d, d⟩ := by
  have hi : i < (cs.map c3).length := by simpa using (List.getElem?_eq_some_iff.1 hc).1
  obtain ⟨c', d', e1, e2, k1, k2, k3, k4, k5, k6, k7, k8⟩ := h.at_ hi
  rw [hc] at e1; rw [hd] at e2
  injection e1 with e1; injection e2 with e2
  subst e1 e2
  rw [shareV_at k7, jl_eq]
  have hdi : dLo (cs.map c3) i i = c.lo := by rw [dLo_at k7, if_pos rfl]; rfl
  have := payJ_mono (d := dLo (cs.map c3) i) (d' := fun i => ds.getD i 0) (P := lo) (P' := P) (i := i) k7 (by show 0 ≤ c.rank; omega) (by rw [hdi]; exact k3) (by rw [hdi]; simp only [k8]; exact k1) h.pro.1 (fun j hj => by
    obtain ⟨cj, dj, _, _, q1, _, q3, _, _, _, _, q8⟩ := h.at_ hj
    simp only [q8]; omega) (fun j hj hji => by
    obtain ⟨cj, dj, _, _, q1, q2, q3, _, _, _, q7, q8⟩ := h.at_ hj
    rw [dLo_at q7, if_neg hji]
    simp only [q8]; exact q2)
  simp only [k8] at this
  exact this
theorem true_high {lo hi : Int} {cs : List Clm} {P : Int} {ds : List Int} (h : TruthOk lo hi cs P ds) {i : Nat} {c : Clm} {d : Int} (hc : cs[i]? = some c) (hd : ds[i]? = some d) :
    payAt (jl cs ds) P ⟨c.rank, d, d⟩ ≤ shareV (cs.map c3) (dHi (cs.map c3) i) hi i := by
  have hi' : i < (cs.map c3).length := by simpa using (List.getElem?_eq_some_iff.1 hc).1
  obtain ⟨c', d', e1, e2, k1, k2, k3, k4, k5, k6, k7, k8⟩ := h.at_ hi'
  rw [hc] at e1; rw [hd] at e2
  injection e1 with e1; injection e2 with e2
  subst e1 e2
  rw [shareV_at k7, jl_eq]
  have hdi : dHi (cs.map c3) i i = c.hi := by rw [dHi_at k7, if_pos rfl]; rfl
  have := payJ_mono (d := fun i => ds.getD i 0) (d' := dHi (cs.map c3) i) (P := P) (P' := hi) (i := i) k7 (by show 0 ≤ c.rank; omega) (by simp only [k8]; omega) (by rw [hdi]; simp only [k8]; exact k2) h.pro.2 (fun j hj => by
    obtain ⟨cj, dj, _, _, q1, q2, q3, _, _, _, q7, q8⟩ := h.at_ hj
    rw [dHi_at q7]
    split
    · show 0 ≤ cj.hi; omega
    · exact q3) (fun j hj hji => by
    obtain ⟨cj, dj, _, _, q1, q2, q3, _, _, _, q7, q8⟩ := h.at_ hj
    rw [dHi_at q7, if_neg hji]
    simp only [q8]; exact q1)
  simp only [k8] at this
  exact this

theorem sumR_hi {L : List Cl3} (r : Int) : sumR Cl3.lo (L.map fun c => ⟨c.rank, c.hi, c.hi⟩) r = sumR Cl3.hi L r := by
  unfold sumR
  rw [List.map_map]
  rfl
theorem upTo_hi {L : List Cl3} : ∀ r, upToR (L.map fun c => ⟨c.rank, c.hi, c.hi⟩) r = upToH L r := by
  intro r
  induction r with
  | zero => rfl
  | succ r ih => simp only [upToR, upToH]; rw [ih, sumR_hi]
theorem le3_hi {L : List Cl3} {d : Nat → Int} (h : ∀ j c, L[j]? = some c → d j ≤ c.hi) : Le3 (justL L d) (L.map fun c => ⟨c.rank, c.hi, c.hi⟩) := by
  refine Le3.of_get (by rw [justL_len, List.length_map]) fun j x y hx hy => ?_
  rw [List.getElem?_map] at hy
  cases hc : L[j]? with
  | none => rw [hc] at hy; simp at hy
  | some c =>
    rw [justL_split hc] at hx
    rw [hc] at hy
    simp only [Option.map_some, Option.some.injEq] at hx hy
    subst hx hy
    exact ⟨rfl, h j c hc⟩
theorem payAt_full {l : List Cl3} {P : Int} {c : Cl3} (h0 : 0 ≤ c.rank) (h : upToR l (c.rank.toNat + 1) ≤ P) : payAt l P c = c.lo := by
  unfold payAt
  rw [if_pos]
  have e : upToR l (c.rank.toNat + 1) = upToR l c.rank.toNat + sumR Cl3.lo l (c.rank.toNat : Int) := rfl
  rw [show ((c.rank.toNat : Nat) : Int) = c.rank from by omega] at e
  omega
/-- Who is surely paid gets all cents. -/
theorem sure_full {lo hi : Int} {cs : List Clm} {P : Int} {ds : List Int} (h : TruthOk lo hi cs P ds) {i : Nat} {c : Clm} {d : Int} (hc : cs[i]? = some c) (hd : ds[i]? = some d) {n : Int} (hn : needI (cs.map c3) (c3 c) ≤ n) (hnP : n ≤ P) :
    payAt (jl cs ds) P ⟨c.rank, d, d⟩ = d := by
  have hi' : i < (cs.map c3).length := by simpa using (List.getElem?_eq_some_iff.1 hc).1
  obtain ⟨c', d', e1, e2, k1, k2, k3, k4, k5, k6, k7, k8⟩ := h.at_ hi'
  rw [hc] at e1; rw [hd] at e2
  injection e1 with e1; injection e2 with e2
  subst e1 e2
  by_cases hz : c.hi = 0
  · have hd0 : d = 0 := by omega
    subst hd0
    exact payAt_zero h.ok3 (List.mem_of_getElem? (by rw [jl_at hc, k8])) rfl
  · have hn' : upToH (cs.map c3) (c.rank.toNat + 1) ≤ P := by
      have : needI (cs.map c3) (c3 c) = upToH (cs.map c3) (c.rank.toNat + 1) := by unfold needI; rw [if_neg (by show ¬ c.hi = 0; exact hz)]; rfl
      omega
    refine payAt_full (c := ⟨c.rank, d, d⟩) (by show 0 ≤ c.rank; omega) ?_
    have hle := (le3_hi (L := cs.map c3) (d := fun i => ds.getD i 0) (fun j cj hj => by
      have hjl := (List.getElem?_eq_some_iff.1 hj).1
      obtain ⟨cj', dj, _, _, _, q2, _, _, _, _, q7, q8⟩ := h.at_ hjl
      rw [hj] at q7
      injection q7 with q7
      subst q7
      simp only [q8]; exact q2)).upToR (c.rank.toNat + 1)
    rw [upTo_hi] at hle
    rw [jl_eq]
    show upToR _ (c.rank.toNat + 1) ≤ P
    omega
theorem sureL_mem {lo : Int} {L : List Cl3} {n v : Nat} (h : v ∈ sureL lo L n) : v < n ∧ ∃ c, L[v]? = some c ∧ needI L c ≤ lo := by
  unfold sureL at h
  rw [List.mem_filter, List.mem_range] at h
  refine ⟨h.1, ?_⟩
  have h2 := h.2
  split at h2
  · rename_i c hc
    exact ⟨c, hc, by simpa using h2⟩
  · cases h2
theorem sureL_asc (lo : Int) (L : List Cl3) (n : Nat) : (sureL lo L n).Pairwise (· < ·) := by
  unfold sureL; exact List.Pairwise.filter _ List.pairwise_lt_range
theorem pairwise_step {l : List Nat} (h : l.Pairwise (· < ·)) {i a b : Nat} (ha : l[i]? = some a) (hb : l[i + 1]? = some b) : a < b := by
  obtain ⟨h1, rfl⟩ := List.getElem?_eq_some_iff.1 ha
  obtain ⟨h2, rfl⟩ := List.getElem?_eq_some_iff.1 hb
  exact List.pairwise_iff_getElem.1 h i (i + 1) h1 h2 (by omega)
theorem rangesL_at {lo hi : Int} {L : List Cl3} {n i : Nat} (h : i < n) : (rangesL lo hi L n)[i]? = some (shareV L (dLo L i) lo i, shareV L (dHi L i) hi i) := by
  unfold rangesL
  rw [List.getElem?_map, List.getElem?_range h]
  rfl
end Go.Proofs.Ytblbbhenmhkknaa

namespace Go.Proofs.Ytblbbhenmhkknaa
open Go.RowKit

def upToF (f : Cl3 → Int) (l : List Cl3) : Nat → Int
  | 0 => 0
  | r + 1 => upToF f l r + sumR f l r
theorem sumR_cons (f : Cl3 → Int) (c : Cl3) (l : List Cl3) (r : Int) : sumR f (c :: l) r = (if c.rank = r then f c else 0) + sumR f l r := by
  unfold sumR; simp
theorem total_ranks (f : Cl3 → Int) : ∀ l : List Cl3, (∀ c ∈ l, 1 ≤ c.rank ∧ c.rank ≤ 5) → (l.map f).sum = upToF f l 6 := by
  intro l
  induction l with
  | nil => intro _; rfl
  | cons c l ih =>
    intro h
    have h1 := ih fun x hx => h x (by simp [hx])
    have hc := h c (by simp)
    simp only [List.map_cons, List.sum_cons]
    rw [h1]
    have e : ∀ r : Int, sumR f (c :: l) r = (if c.rank = r then f c else 0) + sumR f l r := sumR_cons f c l
    simp only [upToF, e]
    rcases (show c.rank = 1 ∨ c.rank = 2 ∨ c.rank = 3 ∨ c.rank = 4 ∨ c.rank = 5 by omega) with k | k | k | k | k <;> rw [k] <;> simp <;> omega
theorem sumR_congr {f g : Cl3 → Int} {l : List Cl3} {r : Int} (h : ∀ c ∈ l, c.rank = r → f c = g c) : sumR f l r = sumR g l r := by
  induction l with
  | nil => rfl
  | cons c l ih =>
    rw [sumR_cons, sumR_cons, ih fun x hx => h x (by simp [hx])]
    by_cases k : c.rank = r
    · rw [if_pos k, if_pos k, h c (by simp) k]
    · rw [if_neg k, if_neg k]
theorem sumR_zero (l : List Cl3) (r : Int) : sumR (fun _ => 0) l r = 0 := by
  induction l with
  | nil => rfl
  | cons c l ih => rw [sumR_cons, ih]; split <;> rfl
theorem sumR_cnt (l : List Cl3) (r : Int) : 0 ≤ sumR (fun _ => 1) l r ∧ sumR (fun _ => 1) l r ≤ l.length := by
  induction l with
  | nil => simp [sumR]
  | cons c l ih =>
    rw [sumR_cons, List.length_cons]
    split <;> omega
/-- Shares, rounded down, together. -/
theorem shares_sum {D S : Int} (hS : 0 < S) (r : Int) : ∀ l : List Cl3, sumR (fun c => D * c.lo / S) l r * S ≤ D * sumR Cl3.lo l r ∧ D * sumR Cl3.lo l r ≤ sumR (fun c => D * c.lo / S) l r * S + sumR (fun _ => 1) l r * (S - 1) := by
  intro l
  induction l with
  | nil => simp [sumR]
  | cons c l ih =>
    rw [sumR_cons, sumR_cons, sumR_cons]
    by_cases k : c.rank = r
    · rw [if_pos k, if_pos k, if_pos k]
      have h1 : D * c.lo / S * S ≤ D * c.lo := Int.ediv_mul_le _ (by omega)
      have h2 : D * c.lo < (D * c.lo / S + 1) * S := Int.lt_ediv_add_one_mul_self _ hS
      obtain ⟨q, hq⟩ : ∃ q, D * c.lo / S = q := ⟨_, rfl⟩
      rw [hq] at h1 h2 ⊢
      obtain ⟨T, hT⟩ : ∃ T, sumR (fun c => D * c.lo / S) l r = T := ⟨_, rfl⟩
      rw [hT] at ih ⊢
      have e1 : (q + T) * S = q * S + T * S := Int.add_mul _ _ _
      have e2 : D * (c.lo + sumR Cl3.lo l r) = D * c.lo + D * sumR Cl3.lo l r := Int.mul_add _ _ _
      have e3 : (q + 1) * S = q * S + S := by rw [Int.add_mul, Int.one_mul]
      have e4 : (1 + sumR (fun _ => 1) l r) * (S - 1) = (S - 1) + sumR (fun _ => 1) l r * (S - 1) := by rw [Int.add_mul, Int.one_mul]
      rw [e1, e2, e4]
      omega
    · rw [if_neg k, if_neg k, if_neg k]
      simp only [Int.zero_add]
      exact ih
theorem upToR_step (l : List Cl3) (hok : C3Ok l) (r : Nat) : upToR l r ≤ upToR l (r + 1) := by
  have := (sumR_bound (f := Cl3.lo) l r fun x hx => ⟨(hok x hx).2.2.1, (hok x hx).2.2.2.1⟩).1
  simp only [upToR]; omega
theorem upToR_mono (l : List Cl3) (hok : C3Ok l) : ∀ d q, upToR l q ≤ upToR l (q + d) := by
  intro d
  induction d with
  | zero => intro q; exact Int.le_refl _
  | succ d ih => intro q; exact Int.le_trans (ih q) (upToR_step l hok (q + d))
/-- What the claims of one rank get. -/
theorem rank_full {l : List Cl3} {P : Int} {r : Nat} (h : upToR l (r + 1) ≤ P) : sumR (payAt l P) l r = sumR Cl3.lo l r :=
  sumR_congr fun c _ hc => payAt_full (by omega) (by rw [hc]; simpa using h)
theorem rank_none {l : List Cl3} {P : Int} {r : Nat} (h : P < upToR l r) (hok : C3Ok l) : sumR (payAt l P) l r = 0 := by
  rw [sumR_congr (g := fun _ => 0) fun c _ hcr => ?_, sumR_zero]
  have := (sumR_bound (f := Cl3.lo) l r fun x hx => ⟨(hok x hx).2.2.1, (hok x hx).2.2.2.1⟩).1
  unfold payAt
  rw [hcr, Int.toNat_natCast, if_neg (by omega), if_neg (by omega)]
theorem upToF_full {l : List Cl3} {P : Int} (hok : C3Ok l) : ∀ r : Nat, upToR l r ≤ P → upToF (payAt l P) l r = upToR l r := by
  intro r
  induction r with
  | zero => intro _; rfl
  | succ r ih =>
    intro h
    have := upToR_step l hok r
    simp only [upToF]
    rw [ih (by omega), rank_full h]
    rfl
theorem upToF_after {l : List Cl3} {P : Int} (hok : C3Ok l) (r : Nat) (h : P < upToR l (r + 1)) : ∀ d : Nat, upToF (payAt l P) l (r + 1 + d) = upToF (payAt l P) l (r + 1) := by
  intro d
  induction d with
  | zero => rfl
  | succ d ih =>
    have e : upToF (payAt l P) l (r + 1 + (d + 1)) = upToF (payAt l P) l (r + 1 + d) + sumR (payAt l P) l ((r + 1 + d : Nat) : Int) := rfl
    have hm := upToR_mono l hok d (r + 1)
    rw [e, ih, rank_none (by omega) hok, Int.add_zero]
/-- The proceeds run out at some rank, or they don't. -/
theorem rank_out {l : List Cl3} {P : Int} (hP : 0 ≤ P) : ∀ n : Nat, upToR l n ≤ P ∨ ∃ r, r < n ∧ upToR l r ≤ P ∧ P < upToR l (r + 1) := by
  intro n
  induction n with
  | zero => exact .inl hP
  | succ n ih =>
    rcases ih with h | ⟨r, h1, h2, h3⟩
    · by_cases k : upToR l (n + 1) ≤ P
      · exact .inl k
      · exact .inr ⟨n, by omega, h, by omega⟩
    · exact .inr ⟨r, by omega, h2, h3⟩
theorem pays_total {l : List Cl3} {P : Int} (hok : C3Ok l) (hP : 0 ≤ P) : (pays l P).sum ≤ P ∧ (upToR l 6 ≤ P ∨ P - (pays l P).sum < l.length) := by
  have ht := total_ranks (payAt l P) l fun c hc => ⟨(hok c hc).1, (hok c hc).2.1⟩
  unfold pays
  rw [ht]
  rcases rank_out (l := l) hP 6 with h | ⟨r, hr, h1, h2⟩
  · rw [upToF_full hok 6 h]
    exact ⟨h, .inl h⟩
  · have ha := upToF_after hok r h2 (5 - r)
    rw [show r + 1 + (5 - r) = 6 from by omega] at ha
    have hf := upToF_full hok r h1
    have e : upToF (payAt l P) l (r + 1) = upToF (payAt l P) l r + sumR (payAt l P) l r := rfl
    obtain ⟨S, hS⟩ : ∃ S, sumR Cl3.lo l (r : Int) = S := ⟨_, rfl⟩
    have eU : upToR l (r + 1) = upToR l r + S := by rw [← hS]; rfl
    obtain ⟨U, hU⟩ : ∃ U, upToR l r = U := ⟨_, rfl⟩
    have hS0 : 0 < S := by omega
    have hg : sumR (payAt l P) l r = sumR (fun c => (P - U) * c.lo / S) l r := sumR_congr fun c _ hcr => by
      unfold payAt
      rw [hcr, Int.toNat_natCast, hU, hS, if_neg (by omega), if_pos (by omega)]
    have hs := shares_sum (D := P - U) hS0 (r : Int) l
    have hcnt := sumR_cnt l (r : Int)
    rw [hS] at hs
    obtain ⟨T, hT⟩ : ∃ T, sumR (fun c => (P - U) * c.lo / S) l (r : Int) = T := ⟨_, rfl⟩
    obtain ⟨N, hN⟩ : ∃ N, sumR (fun _ => 1) l (r : Int) = N := ⟨_, rfl⟩
    rw [hT] at hs hg
    rw [hN] at hs hcnt
    have hTD : T ≤ P - U := Int.le_of_mul_le_mul_right hs.1 hS0
    have hN0 : 0 < N := by
      rcases (show N = 0 ∨ 0 < N by omega) with k | k
      · exfalso
        rw [k, Int.zero_mul, Int.add_zero] at hs
        have : P - U ≤ T := Int.le_of_mul_le_mul_right hs.2 hS0
        have hTN : sumR Cl3.lo l (r : Int) = 0 := by
          have key : ∀ l' : List Cl3, sumR (fun _ => 1) l' (r : Int) = 0 → sumR Cl3.lo l' (r : Int) = 0 := by
            intro l'
            induction l' with
            | nil => intro _; rfl
            | cons c l' ih =>
              intro h
              rw [sumR_cons] at h ⊢
              have := (sumR_cnt l' (r : Int)).1
              by_cases kk : c.rank = r
              · rw [if_pos kk] at h; omega
              · rw [if_neg kk] at h ⊢; rw [ih (by omega)]; rfl
          exact key l (by rw [hN]; exact k)
        omega
      · exact k
    have hlt : P - U - T < N := by
      have e2 : N * (S - 1) = N * S - N := by rw [Int.mul_sub, Int.mul_one]
      have e3 : (P - U - T) * S = (P - U) * S - T * S := Int.sub_mul _ _ _
      have : (P - U - T) * S < N * S := by omega
      exact Int.lt_of_mul_lt_mul_right this (by omega)
    refine ⟨by omega, .inr (by omega)⟩
/-- Who is not paid in full: the proceeds have run out at that rank. -/
theorem short_out {l : List Cl3} {P : Int} {c : Cl3} (h0 : 0 ≤ c.rank) (h : payAt l P c < c.lo) : P < upToR l (c.rank.toNat + 1) := by
  rcases (show upToR l (c.rank.toNat + 1) ≤ P ∨ P < upToR l (c.rank.toNat + 1) by omega) with k | k
  · rw [payAt_full h0 k] at h; omega
  · exact k
/-- Then later ranks get nothing. -/
theorem later_none {l : List Cl3} {P : Int} {c d : Cl3} (hok : C3Ok l) (h0 : 0 ≤ c.rank) (h : payAt l P c < c.lo) (hr : c.rank < d.rank) : payAt l P d = 0 := by
  have h1 := short_out h0 h
  have h2 := upToR_mono l hok (d.rank.toNat - (c.rank.toNat + 1)) (c.rank.toNat + 1)
  rw [show c.rank.toNat + 1 + (d.rank.toNat - (c.rank.toNat + 1)) = d.rank.toNat from by omega] at h2
  have h3 := (sumR_bound (f := Cl3.lo) l d.rank fun x hx => ⟨(hok x hx).2.2.1, (hok x hx).2.2.2.1⟩).1
  unfold payAt
  rw [if_neg (by omega), if_neg (by omega)]
theorem short_rest {l : List Cl3} {P : Int} {c : Cl3} (hok : C3Ok l) (hP : 0 ≤ P) (hc : c ∈ l) (h : payAt l P c < c.lo) : P - (pays l P).sum < l.length := by
  have hr := hok c hc
  rcases (pays_total hok hP).2 with k | k
  · exfalso
    have h1 := short_out (by omega) h
    have h2 := upToR_mono l hok (6 - (c.rank.toNat + 1)) (c.rank.toNat + 1)
    rw [show c.rank.toNat + 1 + (6 - (c.rank.toNat + 1)) = 6 from by omega] at h2
    omega
  · exact k
end Go.Proofs.Ytblbbhenmhkknaa
