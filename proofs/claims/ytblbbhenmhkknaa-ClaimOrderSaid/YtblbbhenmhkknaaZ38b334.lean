/- Plain laws of what claims get: what it rises and falls with. No program is walked here. Plain laws: the ranges, who is surely paid, the least proceeds. No program is walked here. Plain laws: more proceeds, more cents. No program is walked here. -/
import Derived.Test.YtblbbhenmhkknaaYW32
import Derived.Test.YtblbbhenmhkknaaYP1
namespace Go.Proofs.Ytblbbhenmhkknaa
open Go.RowKit

/-- What a claim of x gets if D is left for its rank, in which the others claim R. -/
def gP (D R x : Int) : Int := if x + R ≤ D then x else (if 0 ≤ D then D * x / (x + R) else 0)
theorem div_le_of {a b q : Int} (hb : 0 < b) (h : a ≤ q * b) : a / b ≤ q := by
  have := Int.ediv_le_ediv hb h
  rwa [Int.mul_ediv_cancel _ (by omega)] at this
theorem le_div_of {a b q : Int} (hb : 0 < b) (h : q * b ≤ a) : q ≤ a / b := by
  have := Int.ediv_le_ediv hb h
  rwa [Int.mul_ediv_cancel _ (by omega)] at this
theorem gP_nonneg {D R x : Int} (hR : 0 ≤ R) (hx : 0 ≤ x) : 0 ≤ gP D R x := by
  unfold gP
  split
  · exact hx
  · split
    · exact Int.ediv_nonneg (Int.mul_nonneg (by omega) hx) (by omega)
    · omega
theorem gP_le {D R x : Int} (hx : 0 ≤ x) : gP D R x ≤ x := by
  unfold gP
  split
  · omega
  · split
    · rename_i h1 h2
      refine div_le_of (by omega) ?_
      rw [Int.mul_comm x]
      exact Int.mul_le_mul_of_nonneg_right (by omega) hx
    · exact hx
theorem gP_D {D D' R x : Int} (hR : 0 ≤ R) (hx : 0 ≤ x) (h : D ≤ D') : gP D R x ≤ gP D' R x := by
  by_cases h1 : x + R ≤ D'
  · have e : gP D' R x = x := by unfold gP; rw [if_pos h1]
    rw [e]; exact gP_le hx
  · by_cases h0 : 0 ≤ D
    · unfold gP
      rw [if_neg (show ¬ x + R ≤ D by omega), if_neg h1, if_pos h0, if_pos (by omega)]
      exact Int.ediv_le_ediv (by omega) (Int.mul_le_mul_of_nonneg_right h hx)
    · have e : gP D R x = 0 := by unfold gP; rw [if_neg (by omega), if_neg h0]
      rw [e]; exact gP_nonneg hR hx
theorem gP_R {D R R' x : Int} (hR : 0 ≤ R') (hx : 0 ≤ x) (h : R' ≤ R) : gP D R x ≤ gP D R' x := by
  by_cases h1 : x + R' ≤ D
  · have e : gP D R' x = x := by unfold gP; rw [if_pos h1]
    rw [e]; exact gP_le hx
  · by_cases h0 : 0 ≤ D
    · unfold gP
      rw [if_neg (show ¬ x + R ≤ D by omega), if_neg h1, if_pos h0, if_pos h0]
      have hS : 0 < x + R := by omega
      refine le_div_of (by omega) ?_
      have h2 : D * x / (x + R) * (x + R) ≤ D * x := Int.ediv_mul_le _ (by omega)
      have h3 : 0 ≤ D * x / (x + R) := Int.ediv_nonneg (Int.mul_nonneg h0 hx) (by omega)
      have h4 : D * x / (x + R) * (x + R') ≤ D * x / (x + R) * (x + R) := Int.mul_le_mul_of_nonneg_left (by omega) h3
      omega
    · have e : gP D R x = 0 := by unfold gP; rw [if_neg (by omega), if_neg h0]
      rw [e]; exact gP_nonneg hR hx
theorem gP_x {D R x x' : Int} (hR : 0 ≤ R) (hx : 0 ≤ x) (h : x ≤ x') : gP D R x ≤ gP D R x' := by
  by_cases h1 : x' + R ≤ D
  · have e : gP D R x' = x' := by unfold gP; rw [if_pos h1]
    have := gP_le (D := D) (R := R) hx
    omega
  · by_cases h0 : 0 ≤ D
    · have e : gP D R x' = D * x' / (x' + R) := by unfold gP; rw [if_neg h1, if_pos h0]
      rw [e]
      by_cases h2 : x + R ≤ D
      · have e2 : gP D R x = x := by unfold gP; rw [if_pos h2]
        rw [e2]
        refine le_div_of (by omega) ?_
        have h3 : (x + R) * x' ≤ D * x' := Int.mul_le_mul_of_nonneg_right h2 (by omega)
        have h4 : x * R ≤ R * x' := by rw [Int.mul_comm x R]; exact Int.mul_le_mul_of_nonneg_left h hR
        have e3 : (x + R) * x' = x * x' + R * x' := Int.add_mul _ _ _
        have e4 : x * (x' + R) = x * x' + x * R := Int.mul_add _ _ _
        omega
      · have e2 : gP D R x = D * x / (x + R) := by unfold gP; rw [if_neg h2, if_pos h0]
        rw [e2]
        refine le_div_of (by omega) ?_
        have hq : D * x / (x + R) * (x + R) ≤ D * x := Int.ediv_mul_le _ (by omega)
        have hqD : D * x / (x + R) ≤ D := div_le_of (by omega) (Int.mul_le_mul_of_nonneg_left (by omega) h0)
        obtain ⟨q, hqq⟩ : ∃ q, D * x / (x + R) = q := ⟨_, rfl⟩
        rw [hqq] at hq hqD ⊢
        have h5 : q * (x' - x) ≤ D * (x' - x) := Int.mul_le_mul_of_nonneg_right hqD (by omega)
        have e5 : q * (x' + R) = q * (x + R) + q * (x' - x) := by rw [← Int.mul_add]; congr 1; omega
        have e6 : D * x' = D * x + D * (x' - x) := by rw [← Int.mul_add]; congr 1; omega
        omega
    · have e : gP D R x = 0 := by unfold gP; rw [if_neg (by omega), if_neg h0]
      rw [e]; exact gP_nonneg hR (by omega)
theorem gP_mono {D D' R R' x x' : Int} (hR : 0 ≤ R') (hx : 0 ≤ x) (hD : D ≤ D') (hRR : R' ≤ R) (hxx : x ≤ x') : gP D R x ≤ gP D' R' x' :=
  Int.le_trans (gP_D (by omega) hx hD) (Int.le_trans (gP_R hR hx hRR) (gP_x hR hx hxx))

/-! The sums without one claim. -/
theorem sumR_mid (f : Cl3 → Int) (a b : List Cl3) (c : Cl3) (r : Int) : sumR f (a ++ c :: b) r = sumR f (a ++ b) r + if c.rank = r then f c else 0 := by
  unfold sumR
  simp only [List.map_append, List.sum_append, List.map_cons, List.sum_cons]
  omega
theorem upToR_mid (a b : List Cl3) (c : Cl3) : ∀ r : Nat, (r : Int) ≤ c.rank → upToR (a ++ c :: b) r = upToR (a ++ b) r := by
  intro r
  induction r with
  | zero => intro _; rfl
  | succ r ih =>
    intro h
    simp only [upToR]
    rw [ih (by omega), sumR_mid, if_neg (by omega), Int.add_zero]
theorem payAt_mid {a b : List Cl3} {c : Cl3} {P : Int} (h0 : 0 ≤ c.rank) : payAt (a ++ c :: b) P c = gP (P - upToR (a ++ b) c.rank.toNat) (sumR Cl3.lo (a ++ b) c.rank) c.lo := by
  unfold payAt gP
  rw [upToR_mid a b c _ (by omega), sumR_mid, if_pos rfl]
  obtain ⟨u, hu⟩ : ∃ u, upToR (a ++ b) c.rank.toNat = u := ⟨_, rfl⟩
  obtain ⟨s, hs⟩ : ∃ s, sumR Cl3.lo (a ++ b) c.rank = s := ⟨_, rfl⟩
  obtain ⟨x, hx⟩ : ∃ x, c.lo = x := ⟨_, rfl⟩
  rw [hu, hs, hx]
  by_cases h1 : u + (s + x) ≤ P
  · rw [if_pos h1, if_pos (show x + s ≤ P - u by omega)]
  · rw [if_neg h1, if_neg (show ¬ x + s ≤ P - u by omega)]
    by_cases h2 : u ≤ P
    · rw [if_pos h2, if_pos (show 0 ≤ P - u by omega), Int.add_comm x s]
    · rw [if_neg h2, if_neg (show ¬ 0 ≤ P - u by omega)]
/-- Claims of the same ranks, each at most as much. -/
def Le3 : List Cl3 → List Cl3 → Prop
  | [], [] => True
  | x :: a, y :: b => (x.rank = y.rank ∧ x.lo ≤ y.lo) ∧ Le3 a b
  | _, _ => False
theorem Le3.sumR : ∀ {a b : List Cl3}, Le3 a b → ∀ (r : Int), sumR Cl3.lo a r ≤ sumR Cl3.lo b r := by
  intro a
  induction a with
  | nil => intro b h r; cases b with
    | nil => exact Int.le_refl _
    | cons y b => exact h.elim
  | cons x a ih => intro b h r; cases b with
    | nil => exact h.elim
    | cons y b =>
      have h2 := ih h.2 r
      have hxy := h.1
      unfold Ytblbbhenmhkknaa.sumR at *
      simp only [List.map_cons, List.sum_cons]
      rw [hxy.1]
      split <;> omega
theorem Le3.append : ∀ {a b c d : List Cl3}, Le3 a b → Le3 c d → Le3 (a ++ c) (b ++ d) := by
  intro a
  induction a with
  | nil => intro b c d h k; cases b with
    | nil => exact k
    | cons y b => exact h.elim
  | cons x a ih => intro b c d h k; cases b with
    | nil => exact h.elim
    | cons y b => exact ⟨h.1, ih h.2 k⟩
theorem Le3.of_get : ∀ {a b : List Cl3}, a.length = b.length → (∀ (i : Nat) (x y : Cl3), a[i]? = some x → b[i]? = some y → x.rank = y.rank ∧ x.lo ≤ y.lo) → Le3 a b := by
  intro a
  induction a with
  | nil => intro b hl _; cases b with
    | nil => trivial
    | cons y b => simp at hl
  | cons x a ih => intro b hl h; cases b with
    | nil => simp at hl
    | cons y b => exact ⟨h 0 x y rfl rfl, ih (by simpa using hl) fun i u v hu hv => h (i + 1) u v (by simpa using hu) (by simpa using hv)⟩
theorem Le3.upToR {a b : List Cl3} (h : Le3 a b) : ∀ r, upToR a r ≤ upToR b r := by
  intro r
  induction r with
  | zero => exact Int.le_refl _
  | succ r ih =>
    have := h.sumR r
    simp only [Ytblbbhenmhkknaa.upToR]
    omega
theorem sumR_nonneg {l : List Cl3} (h : ∀ x ∈ l, 0 ≤ x.lo) (r : Int) : 0 ≤ sumR Cl3.lo l r := by
  induction l with
  | nil => simp [sumR]
  | cons x l ih =>
    have := ih fun y hy => h y (by simp [hy])
    have := h x (by simp)
    unfold sumR at *
    simp only [List.map_cons, List.sum_cons]
    split <;> omega
/-- With more proceeds, more cents of its own, and less of the others, a claim gets no less. -/
theorem pay_mono {a b a' b' : List Cl3} {c c' : Cl3} {P P' : Int} (h0 : 0 ≤ c.rank) (hr : c.rank = c'.rank) (hx : 0 ≤ c.lo) (hxx : c.lo ≤ c'.lo) (hP : P ≤ P') (hn : ∀ x ∈ a' ++ b', 0 ≤ x.lo) (h : Le3 (a' ++ b') (a ++ b)) :
    payAt (a ++ c :: b) P c ≤ payAt (a' ++ c' :: b') P' c' := by
  rw [payAt_mid h0, payAt_mid (by omega), ← hr]
  have h1 := h.upToR c.rank.toNat
  exact gP_mono (sumR_nonneg hn _) hx (by omega) (h.sumR _) hxx

theorem split_at {α : Type} {l : List α} {i : Nat} {x : α} (h : l[i]? = some x) : l = l.take i ++ x :: l.drop (i + 1) := by
  obtain ⟨hi, rfl⟩ := List.getElem?_eq_some_iff.1 h
  rw [List.getElem_cons_drop hi, List.take_append_drop]
/-- Two lists of claims of the same ranks. -/
theorem justL_split {L : List Cl3} {d : Nat → Int} {i : Nat} {c : Cl3} (h : L[i]? = some c) : (justL L d)[i]? = some ⟨c.rank, d i, d i⟩ := by
  simp [justL, List.getElem?_mapIdx, h]
theorem Le3.justL {L : List Cl3} {d d' : Nat → Int} {i : Nat} (h : ∀ j, j < L.length → j ≠ i → d j ≤ d' j) : Le3 ((justL L d).take i ++ (justL L d).drop (i + 1)) ((Ytblbbhenmhkknaa.justL L d').take i ++ (Ytblbbhenmhkknaa.justL L d').drop (i + 1)) := by
  have hl : ∀ d, (Ytblbbhenmhkknaa.justL L d).length = L.length := fun d => justL_len L d
  have hget : ∀ (d : Nat → Int) (j : Nat) (x : Cl3), (Ytblbbhenmhkknaa.justL L d)[j]? = some x → ∃ c, L[j]? = some c ∧ x = ⟨c.rank, d j, d j⟩ := fun d j x hx => by
    simp only [Ytblbbhenmhkknaa.justL, List.getElem?_mapIdx] at hx
    cases hc : L[j]? with
    | none => rw [hc] at hx; simp at hx
    | some c =>
      rw [hc] at hx
      simp only [Option.map_some, Option.some.injEq] at hx
      exact ⟨c, rfl, hx.symm⟩
  have key : ∀ (j : Nat) (x y : Cl3), j ≠ i → (Ytblbbhenmhkknaa.justL L d)[j]? = some x → (Ytblbbhenmhkknaa.justL L d')[j]? = some y → x.rank = y.rank ∧ x.lo ≤ y.lo := fun j x y hj hx hy => by
    obtain ⟨c, hc, rfl⟩ := hget d j x hx
    obtain ⟨c', hc', rfl⟩ := hget d' j y hy
    rw [hc] at hc'
    injection hc' with hc'
    subst hc'
    exact ⟨rfl, h j (List.getElem?_eq_some_iff.1 hc).1 hj⟩
  refine Le3.append ?_ ?_
  · refine Le3.of_get (by rw [List.length_take, List.length_take, hl, hl]) fun j x y hx hy => ?_
    rw [List.getElem?_take] at hx hy
    split at hx
    · rename_i hji
      rw [if_pos hji] at hy
      exact key j x y (by omega) hx hy
    · cases hx
  · refine Le3.of_get (by rw [List.length_drop, List.length_drop, hl, hl]) fun j x y hx hy => ?_
    rw [List.getElem?_drop] at hx hy
    exact key (i + 1 + j) x y (by omega) hx hy
theorem justL_nonneg {L : List Cl3} {d : Nat → Int} {i : Nat} (h : ∀ j, j < L.length → 0 ≤ d j) : ∀ x ∈ (justL L d).take i ++ (justL L d).drop (i + 1), 0 ≤ x.lo := by
  intro x hx
  have hm : x ∈ justL L d := by
    rcases List.mem_append.1 hx with hx | hx
    · exact List.mem_of_mem_take hx
    · exact List.mem_of_mem_drop hx
  obtain ⟨j, hj⟩ := List.getElem?_of_mem hm
  simp only [justL, List.getElem?_mapIdx] at hj
  cases hc : L[j]? with
  | none => rw [hc] at hj; simp at hj
  | some c =>
    rw [hc] at hj
    simp only [Option.map_some, Option.some.injEq] at hj
    subst hj
    exact h j (List.getElem?_eq_some_iff.1 hc).1
/-- The same, of claims of just so many cents. -/
theorem payJ_mono {L : List Cl3} {d d' : Nat → Int} {P P' : Int} {i : Nat} {c : Cl3} (hc : L[i]? = some c) (h0 : 0 ≤ c.rank) (hx : 0 ≤ d i) (hxx : d i ≤ d' i) (hP : P ≤ P') (hn : ∀ j, j < L.length → 0 ≤ d' j) (h : ∀ j, j < L.length → j ≠ i → d' j ≤ d j) :
    payAt (justL L d) P ⟨c.rank, d i, d i⟩ ≤ payAt (justL L d') P' ⟨c.rank, d' i, d' i⟩ := by
  have e1 := split_at (justL_split (d := d) hc)
  have e2 := split_at (justL_split (d := d') hc)
  rw [e1, e2]
  exact pay_mono h0 rfl hx hxx hP (justL_nonneg hn) (Le3.justL h)
end Go.Proofs.Ytblbbhenmhkknaa

namespace Go.Proofs.Ytblbbhenmhkknaa
open Go.RowKit

theorem shareV_at {L : List Cl3} {d : Nat → Int} {P : Int} {i : Nat} {c : Cl3} (h : L[i]? = some c) : shareV L d P i = payAt (justL L d) P ⟨c.rank, d i, d i⟩ := by
  unfold shareV
  rw [List.getD_eq_getElem?_getD, pays_get (justL_split h)]
  rfl
theorem l3_at {cs : List Clm} {i : Nat} {c : Clm} (h : cs[i]? = some c) : (cs.map c3)[i]? = some (c3 c) := by simp [h]
theorem jl_eq (cs : List Clm) (ds : List Int) : jl cs ds = justL (cs.map c3) fun i => ds.getD i 0 := rfl
theorem getD_at {ds : List Int} {i : Nat} {d : Int} (h : ds[i]? = some d) : ds.getD i 0 = d := by rw [List.getD_eq_getElem?_getD, h]; rfl
theorem TruthOk.at_ {lo hi : Int} {cs : List Clm} {P : Int} {ds : List Int} (h : TruthOk lo hi cs P ds) {i : Nat} (hi : i < (cs.map c3).length) : ∃ c d, cs[i]? = some c ∧ ds[i]? = some d ∧ c.lo ≤ d ∧ d ≤ c.hi ∧ 0 ≤ c.lo ∧ c.hi ≤ 1000000000 ∧ 1 ≤ c.rank ∧ c.rank ≤ 5 ∧ (cs.map c3)[i]? = some (c3 c) ∧ ds.getD i 0 = d := by
  rw [List.length_map] at hi
  obtain ⟨c, hc⟩ : ∃ c, cs[i]? = some c := ⟨_, List.getElem?_eq_getElem hi⟩
  obtain ⟨d, hd⟩ : ∃ d, ds[i]? = some d := ⟨_, List.getElem?_eq_getElem (by rw [h.len]; exact hi)⟩
  have h1 := h.cents i c d hc hd
  have h2 := (est_ok h.est).each c (List.mem_of_getElem? hc)
  exact ⟨c, d, hc, hd, h1.1, h1.2, h2.2.2.2.1, h2.2.2.2.2.2, h2.2.1, h2.2.2.1, l3_at hc, getD_at hd⟩
theorem dLo_at {L : List Cl3} {i j : Nat} {c : Cl3} (h : L[j]? = some c) : dLo L i j = if j = i then c.lo else c.hi := by simp [dLo, h]
theorem dHi_at {L : List Cl3} {i j : Nat} {c : Cl3} (h : L[j]? = some c) : dHi L i j = if j = i then c.hi else c.lo := by simp [dHi, h]

theorem true_low {lo hi : Int} {cs : List Clm} {P : Int} {ds : List Int} (h : TruthOk lo hi cs P ds) {i : Nat} {c : Clm} {d : Int} (hc : cs[i]? = some c) (hd : ds[i]? = some d) :
    shareV (cs.map c3) (dLo (cs.map c3) i) lo i ≤ payAt (jl cs ds) P ⟨c.rank, d, d⟩ := by
  have hi : i < (cs.map c3).length := by simpa using (List.getElem?_eq_some_iff.1 hc).1
  obtain ⟨c', d', e1, e2, k1, k2, k3, k4, k5, k6, k7, k8⟩ := h.at_ hi
  rw [hc] at e1; rw [hd] at e2
  injection e1 with e1; injection e2 with e2
  subst e1 e2
  rw [shareV_at k7, jl_eq]
  have hdi : dLo (cs.map c3) i i = c.lo := by rw [dLo_at k7, if_pos rfl]; rfl
  have := payJ_mono (d := dLo (cs.map c3) i) (d' := fun i => ds.getD i 0) (P := lo) (P' := P) (i := i) k7 (by show 0 ≤ c.rank; omega) (by rw [hdi]; exact k3) (by rw [hdi]; simp only [k8]; exact k1) h.pro.1 (fun j hj => by
    obtain ⟨cj, dj, _, _, q1, _, q3, _, _, _, _, q8⟩ := h.at_ hj
    simp only [q8]; omega) (fun j hj hji => by
    obtain ⟨cj, dj, _, _, q1, q2, q3, _, _, _, q7, q8⟩ := h.at_ hj
    rw [dLo_at q7, if_neg hji]
    simp only [q8]; exact q2)
  simp only [k8] at this
  exact this
theorem true_high {lo hi : Int} {cs : List Clm} {P : Int} {ds : List Int} (h : TruthOk lo hi cs P ds) {i : Nat} {c : Clm} {d : Int} (hc : cs[i]? = some c) (hd : ds[i]? = some d) :
    payAt (jl cs ds) P ⟨c.rank, d, d⟩ ≤ shareV (cs.map c3) (dHi (cs.map c3) i) hi i := by
  have hi' : i < (cs.map c3).length := by simpa using (List.getElem?_eq_some_iff.1 hc).1
  obtain ⟨c', d', e1, e2, k1, k2, k3, k4, k5, k6, k7, k8⟩ := h.at_ hi'
  rw [hc] at e1; rw [hd] at e2
  injection e1 with e1; injection e2 with e2
  subst e1 e2
  rw [shareV_at k7, jl_eq]
  have hdi : dHi (cs.map c3) i i = c.hi := by rw [dHi_at k7, if_pos rfl]; rfl
  have := payJ_mono (d := fun i => ds.getD i 0) (d' := dHi (cs.map c3) i) (P := P) (P' := hi) (i := i) k7 (by show 0 ≤ c.rank; omega) (by simp only [k8]; omega) (by rw [hdi]; simp only [k8]; exact k2) h.pro.2 (fun j hj => by
    obtain ⟨cj, dj, _, _, q1, q2, q3, _, _, _, q7, q8⟩ := h.at_ hj
    rw [dHi_at q7]
    split
    · show 0 ≤ cj.hi; omega
    · exact q3) (fun j hj hji => by
    obtain ⟨cj, dj, _, _, q1, q2, q3, _, _, _, q7, q8⟩ := h.at_ hj
    rw [dHi_at q7, if_neg hji]
    simp only [q8]; exact q1)
  simp only [k8] at this
  exact this

theorem sumR_hi {L : List Cl3} (r : Int) : sumR Cl3.lo (L.map fun c => ⟨c.rank, c.hi, c.hi⟩) r = sumR Cl3.hi L r := by
  unfold sumR
  rw [List.map_map]
  rfl
theorem upTo_hi {L : List Cl3} : ∀ r, upToR (L.map fun c => ⟨c.rank, c.hi, c.hi⟩) r = upToH L r := by
  intro r
  induction r with
  | zero => rfl
  | succ r ih => simp only [upToR, upToH]; rw [ih, sumR_hi]
theorem le3_hi {L : List Cl3} {d : Nat → Int} (h : ∀ j c, L[j]? = some c → d j ≤ c.hi) : Le3 (justL L d) (L.map fun c => ⟨c.rank, c.hi, c.hi⟩) := by
  refine Le3.of_get (by rw [justL_len, List.length_map]) fun j x y hx hy => ?_
  rw [List.getElem?_map] at hy
  cases hc : L[j]? with
  | none => rw [hc] at hy; simp at hy
  | some c =>
    rw [justL_split hc] at hx
    rw [hc] at hy
    simp only [Option.map_some, Option.some.injEq] at hx hy
    subst hx hy
    exact ⟨rfl, h j c hc⟩
theorem payAt_full {l : List Cl3} {P : Int} {c : Cl3} (h0 : 0 ≤ c.rank) (h : upToR l (c.rank.toNat + 1) ≤ P) : payAt l P c = c.lo := by
  unfold payAt
  rw [if_pos]
  have e : upToR l (c.rank.toNat + 1) = upToR l c.rank.toNat + sumR Cl3.lo l (c.rank.toNat : Int) := rfl
  rw [show ((c.rank.toNat : Nat) : Int) = c.rank from by omega] at e
  omega
/-- Who is surely paid gets all cents. -/
theorem sure_full {lo hi : Int} {cs : List Clm} {P : Int} {ds : List Int} (h : TruthOk lo hi cs P ds) {i : Nat} {c : Clm} {d : Int} (hc : cs[i]? = some c) (hd : ds[i]? = some d) {n : Int} (hn : needI (cs.map c3) (c3 c) ≤ n) (hnP : n ≤ P) :
    payAt (jl cs ds) P ⟨c.rank, d, d⟩ = d := by
  have hi' : i < (cs.map c3).length := by simpa using (List.getElem?_eq_some_iff.1 hc).1
  obtain ⟨c', d', e1, e2, k1, k2, k3, k4, k5, k6, k7, k8⟩ := h.at_ hi'
  rw [hc] at e1; rw [hd] at e2
  injection e1 with e1; injection e2 with e2
  subst e1 e2
  by_cases hz : c.hi = 0
  · have hd0 : d = 0 := by omega
    subst hd0
    exact payAt_zero h.ok3 (List.mem_of_getElem? (by rw [jl_at hc, k8])) rfl
  · have hn' : upToH (cs.map c3) (c.rank.toNat + 1) ≤ P := by
      have : needI (cs.map c3) (c3 c) = upToH (cs.map c3) (c.rank.toNat + 1) := by unfold needI; rw [if_neg (by show ¬ c.hi = 0; exact hz)]; rfl
      omega
    refine payAt_full (c := ⟨c.rank, d, d⟩) (by show 0 ≤ c.rank; omega) ?_
    have hle := (le3_hi (L := cs.map c3) (d := fun i => ds.getD i 0) (fun j cj hj => by
      have hjl := (List.getElem?_eq_some_iff.1 hj).1
      obtain ⟨cj', dj, _, _, _, q2, _, _, _, _, q7, q8⟩ := h.at_ hjl
      rw [hj] at q7
      injection q7 with q7
      subst q7
      simp only [q8]; exact q2)).upToR (c.rank.toNat + 1)
    rw [upTo_hi] at hle
    rw [jl_eq]
    show upToR _ (c.rank.toNat + 1) ≤ P
    omega
theorem sureL_mem {lo : Int} {L : List Cl3} {n v : Nat} (h : v ∈ sureL lo L n) : v < n ∧ ∃ c, L[v]? = some c ∧ needI L c ≤ lo := by
  unfold sureL at h
  rw [List.mem_filter, List.mem_range] at h
  refine ⟨h.1, ?_⟩
  have h2 := h.2
  split at h2
  · rename_i c hc
    exact ⟨c, hc, by simpa using h2⟩
  · cases h2
theorem sureL_asc (lo : Int) (L : List Cl3) (n : Nat) : (sureL lo L n).Pairwise (· < ·) := by
  unfold sureL; exact List.Pairwise.filter _ List.pairwise_lt_range
theorem pairwise_step {l : List Nat} (h : l.Pairwise (· < ·)) {i a b : Nat} (ha : l[i]? = some a) (hb : l[i + 1]? = some b) : a < b := by
  obtain ⟨h1, rfl⟩ := List.getElem?_eq_some_iff.1 ha
  obtain ⟨h2, rfl⟩ := List.getElem?_eq_some_iff.1 hb
  exact List.pairwise_iff_getElem.1 h i (i + 1) h1 h2 (by omega)
theorem rangesL_at {lo hi : Int} {L : List Cl3} {n i : Nat} (h : i < n) : (rangesL lo hi L n)[i]? = some (shareV L (dLo L i) lo i, shareV L (dHi L i) hi i) := by
  unfold rangesL
  rw [List.getElem?_map, List.getElem?_range h]
  rfl
end Go.Proofs.Ytblbbhenmhkknaa

namespace Go.Proofs.Ytblbbhenmhkknaa
open Go.RowKit

theorem truthE_mk {lo hi : Int} {cs : List Clm} {P : Int} {ds : List Int} (h : TruthOk lo hi cs P ds) : truthE lo hi cs P ds = 0 := by
  unfold truthE
  rw [if_pos h.est, if_pos h.len, show inB lo hi P = true from inB_mk h.pro.1 h.pro.2, centsOk_all]
  · rfl
  · intro i c d hc hd
    rw [List.getElem?_map] at hc
    cases hx : cs[i]? with
    | none => rw [hx] at hc; simp at hc
    | some x =>
      rw [hx] at hc
      simp only [Option.map_some, Option.some.injEq] at hc
      subst hc
      exact h.cents i x d hx hd
theorem TruthOk.rich {lo hi : Int} {cs : List Clm} {P P' : Int} {ds : List Int} (h : TruthOk lo hi cs P ds) (h1 : P ≤ P') (h2 : P' ≤ hi) : TruthOk lo hi cs P' ds :=
  ⟨h.est, h.len, ⟨by have := h.pro.1; omega, h2⟩, h.cents⟩
theorem TruthOk.big {lo hi : Int} {cs : List Clm} {P : Int} {ds : List Int} (h : TruthOk lo hi cs P ds) {i : Nat} {c : Clm} {x : Int} (hc : cs[i]? = some c) (h1 : c.lo ≤ x) (h2 : x ≤ c.hi) : TruthOk lo hi cs P (ds.set i x) := by
  refine ⟨h.est, by rw [List.length_set]; exact h.len, h.pro, fun j cj d hj hd => ?_⟩
  by_cases e : i = j
  · subst e
    rw [hc] at hj
    injection hj with hj
    subst hj
    have hl : i < ds.length := by rw [h.len]; exact (List.getElem?_eq_some_iff.1 hc).1
    rw [List.getElem?_set_self hl] at hd
    injection hd with hd
    subst hd
    exact ⟨h1, h2⟩
  · rw [List.getElem?_set_ne e] at hd
    exact h.cents j cj d hj hd
theorem more_rich {lo hi : Int} {cs : List Clm} {P P' : Int} {ds : List Int} (h : TruthOk lo hi cs P ds) (hPP : P ≤ P') {i : Nat} {c : Clm} {d : Int} (hc : cs[i]? = some c) (hd : ds[i]? = some d) :
    payAt (jl cs ds) P ⟨c.rank, d, d⟩ ≤ payAt (jl cs ds) P' ⟨c.rank, d, d⟩ := by
  have hi : i < (cs.map c3).length := by simpa using (List.getElem?_eq_some_iff.1 hc).1
  obtain ⟨c', d', e1, e2, k1, k2, k3, k4, k5, k6, k7, k8⟩ := h.at_ hi
  rw [hc] at e1; rw [hd] at e2
  injection e1 with e1; injection e2 with e2
  subst e1 e2
  rw [jl_eq]
  have := payJ_mono (d := fun i => ds.getD i 0) (d' := fun i => ds.getD i 0) (P := P) (P' := P') (i := i) k7 (by show 0 ≤ c.rank; omega) (by simp only [k8]; omega) (Int.le_refl _) hPP (fun j hj => by
    obtain ⟨cj, dj, _, _, q1, _, q3, _, _, _, _, q8⟩ := h.at_ hj
    simp only [q8]; omega) (fun j _ _ => Int.le_refl _)
  simp only [k8] at this
  exact this
theorem set_getD {ds : List Int} {i j : Nat} {x : Int} (h : i < ds.length) : (ds.set i x).getD j 0 = if i = j then x else ds.getD j 0 := by
  rw [List.getD_eq_getElem?_getD, List.getD_eq_getElem?_getD]
  by_cases e : i = j
  · subst e; rw [List.getElem?_set_self h, if_pos rfl]; rfl
  · rw [List.getElem?_set_ne e, if_neg e]
theorem more_own {lo hi : Int} {cs : List Clm} {P : Int} {ds : List Int} (h : TruthOk lo hi cs P ds) {i : Nat} {c : Clm} {d x : Int} (hc : cs[i]? = some c) (hd : ds[i]? = some d) (hx : d ≤ x) :
    payAt (jl cs ds) P ⟨c.rank, d, d⟩ ≤ payAt (jl cs (ds.set i x)) P ⟨c.rank, x, x⟩ := by
  have hi : i < (cs.map c3).length := by simpa using (List.getElem?_eq_some_iff.1 hc).1
  have hil : i < ds.length := (List.getElem?_eq_some_iff.1 hd).1
  obtain ⟨c', d', e1, e2, k1, k2, k3, k4, k5, k6, k7, k8⟩ := h.at_ hi
  rw [hc] at e1; rw [hd] at e2
  injection e1 with e1; injection e2 with e2
  subst e1 e2
  rw [jl_eq, jl_eq]
  have hsi : (ds.set i x).getD i 0 = x := by rw [set_getD hil, if_pos rfl]
  have := payJ_mono (d := fun i => ds.getD i 0) (d' := fun j => (ds.set i x).getD j 0) (P := P) (P' := P) (i := i) k7 (by show 0 ≤ c.rank; omega) (by simp only [k8]; omega) (by simp only [k8, hsi]; exact hx) (Int.le_refl _) (fun j hj => by
    obtain ⟨cj, dj, _, _, q1, _, q3, _, _, _, _, q8⟩ := h.at_ hj
    simp only [set_getD hil]
    split
    · omega
    · rw [q8]; omega) (fun j hj hji => by
    simp only [set_getD hil]
    rw [if_neg (fun e => hji e.symm)]; exact Int.le_refl _)
  simp only [k8, hsi] at this
  exact this
theorem more_other {lo hi : Int} {cs : List Clm} {P : Int} {ds : List Int} (h : TruthOk lo hi cs P ds) {i k : Nat} {ck : Clm} {d x dk : Int} (hd : ds[i]? = some d) (hx : d ≤ x) (hck : cs[k]? = some ck) (hdk : ds[k]? = some dk) (hne : i ≠ k) :
    payAt (jl cs (ds.set i x)) P ⟨ck.rank, dk, dk⟩ ≤ payAt (jl cs ds) P ⟨ck.rank, dk, dk⟩ := by
  have hk : k < (cs.map c3).length := by simpa using (List.getElem?_eq_some_iff.1 hck).1
  have hil : i < ds.length := (List.getElem?_eq_some_iff.1 hd).1
  obtain ⟨c', d', e1, e2, k1, k2, k3, k4, k5, k6, k7, k8⟩ := h.at_ hk
  rw [hck] at e1; rw [hdk] at e2
  injection e1 with e1; injection e2 with e2
  subst e1 e2
  rw [jl_eq, jl_eq]
  have hsk : (ds.set i x).getD k 0 = dk := by rw [set_getD hil, if_neg hne, k8]
  have := payJ_mono (d := fun j => (ds.set i x).getD j 0) (d' := fun i => ds.getD i 0) (P := P) (P' := P) (i := k) k7 (by show 0 ≤ ck.rank; omega) (by simp only [hsk]; omega) (by simp only [k8, hsk]; exact Int.le_refl _) (Int.le_refl _) (fun j hj => by
    obtain ⟨cj, dj, _, _, q1, _, q3, _, _, _, _, q8⟩ := h.at_ hj
    simp only [q8]; omega) (fun j hj _ => by
    simp only [set_getD hil]
    split
    · rename_i e
      subst e
      rw [getD_at hd]; exact hx
    · exact Int.le_refl _)
  simp only [k8, hsk] at this
  exact this
theorem set_at {ds : List Int} {i j : Nat} {x d : Int} (h : ds[j]? = some d) : (ds.set i x)[j]? = some (if i = j then x else d) := by
  have hj := (List.getElem?_eq_some_iff.1 h).1
  by_cases e : i = j
  · subst e; rw [List.getElem?_set_self hj, if_pos rfl]
  · rw [List.getElem?_set_ne e, if_neg e, h]
end Go.Proofs.Ytblbbhenmhkknaa
