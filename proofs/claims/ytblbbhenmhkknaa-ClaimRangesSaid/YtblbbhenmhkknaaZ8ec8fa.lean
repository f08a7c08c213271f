/- Plain laws of what claims get: what it rises and falls with. No program is walked here. Plain laws: the ranges, who is surely paid, the least proceeds. No program is walked here. The end of a range: the truth in which a claim gets least, or most. -/
import Derived.Deep.RegionHeld3
import Derived.Deep.RegionWith
import Derived.Deep.RegionLaw
import Derived.Deep.AppendLies
import Derived.Deep.DeepCutAuto
import Derived.Test.YtblbbhenmhkknaaYW32
import Derived.Test.YtblbbhenmhkknaaZdfe21b
import Derived.Test.YtblbbhenmhkknaaYP1
namespace Go.Proofs.Ytblbbhenmhkknaa
open Go.RowKit

/-- What a claim of x gets if D is left for its rank, in which the others claim R. -/
def gP (D R x : Int) : Int := if x + R ≤ D then x else (if 0 ≤ D then D * x / (x + R) else 0)
theorem div_le_of {a b q : Int} (hb : 0 < b) (h : a ≤ q * b) : a / b ≤ q := by
  have := Int.ediv_le_ediv hb h
  rwa [Int.mul_ediv_cancel _ (by omega)] at this
theorem le_div_of {a b q : Int} (hb : 0 < b) (h : q * b ≤ a) : q ≤ a / b := by
  have := Int.ediv_le_ediv hb h
  rwa [Int.mul_ediv_cancel _ (by omega)] at this
theorem gP_nonneg {D R x : Int} (hR : 0 ≤ R) (hx : 0 ≤ x) : 0 ≤ gP D R x := by
  unfold gP
  split
  · exact hx
  · split
    · exact Int.ediv_nonneg (Int.mul_nonneg (by omega) hx) (by omega)
    · omega
theorem gP_le {D R x : Int} (hx : 0 ≤ x) : gP D R x ≤ x := by
  unfold gP
  split
  · omega
  · split
    · rename_i h1 h2
      refine div_le_of (by omega) ?_
      rw [Int.mul_comm x]
      exact Int.mul_le_mul_of_nonneg_right (by omega) hx
    · exact hx
theorem gP_D {D D' R x : Int} (hR : 0 ≤ R) (hx : 0 ≤ x) (h : D ≤ D') : gP D R x ≤ gP D' R x := by
  by_cases h1 : x + R ≤ D'
  · have e : gP D' R x = x := by unfold gP; rw [if_pos h1]
    rw [e]; exact gP_le hx
  · by_cases h0 : 0 ≤ D
    · unfold gP
      rw [if_neg (show ¬ x + R ≤ D by omega), if_neg h1, if_pos h0, if_pos (by omega)]
      exact Int.ediv_le_ediv (by omega) (Int.mul_le_mul_of_nonneg_right h hx)
    · have e : gP D R x = 0 := by unfold gP; rw [if_neg (by omega), if_neg h0]
      rw [e]; exact gP_nonneg hR hx
theorem gP_R {D R R' x : Int} (hR : 0 ≤ R') (hx : 0 ≤ x) (h : R' ≤ R) : gP D R x ≤ gP D R' x := by
  by_cases h1 : x + R' ≤ D
  · have e : gP D R' x = x := by unfold gP; rw [if_pos h1]
    rw [e]; exact gP_le hx
  · by_cases h0 : 0 ≤ D
    · unfold gP
      rw [if_neg (show ¬ x + R ≤ D by omega), if_neg h1, if_pos h0, if_pos h0]
      have hS : 0 < x + R := by omega
      refine le_div_of (by omega) ?_
      have h2 : D * x / (x + R) * (x + R) ≤ D * x := Int.ediv_mul_le _ (by omega)
      have h3 : 0 ≤ D * x / (x + R) := Int.ediv_nonneg (Int.mul_nonneg h0 hx) (by omega)
      have h4 : D * x / (x + R) * (x + R') ≤ D * x / (x + R) * (x + R) := Int.mul_le_mul_of_nonneg_left (by omega) h3
      omega
    · have e : gP D R x = 0 := by unfold gP; rw [if_neg (by omega), if_neg h0]
      rw [e]; exact gP_nonneg hR hx
theorem gP_x {D R x x' : Int} (hR : 0 ≤ R) (hx : 0 ≤ x) (h : x ≤ x') : gP D R x ≤ gP D R x' := by
  by_cases h1 : x' + R ≤ D
  · have e : gP D R x' = x' := by unfold gP; rw [if_pos h1]
    have := gP_le (D := D) (R := R) hx
    omega
  · by_cases h0 : 0 ≤ D
    · have e : gP D R x' = D * x' / (x' + R) := by unfold gP; rw [if_neg h1, if_pos h0]
      rw [e]
      by_cases h2 : x + R ≤ D
      · have e2 : gP D R x = x := by unfold gP; rw [if_pos h2]
        rw [e2]
        refine le_div_of (by omega) ?_
        have h3 : (x + R) * x' ≤ D * x' := Int.mul_le_mul_of_nonneg_right h2 (by omega)
        have h4 : x * R ≤ R * x' := by rw [Int.mul_comm x R]; exact Int.mul_le_mul_of_nonneg_left h hR
        have e3 : (x + R) * x' = x * x' + R * x' := Int.add_mul _ _ _
        have e4 : x * (x' + R) = x * x' + x * R := Int.mul_add _ _ _
        omega
      · have e2 : gP D R x = D * x / (x + R) := by unfold gP; rw [if_neg h2, if_pos h0]
        rw [e2]
        refine le_div_of (by omega) ?_
        have hq : D * x / (x + R) * (x + R) ≤ D * x := Int.ediv_mul_le _ (by omega)
        have hqD : D * x / (x + R) ≤ D := div_le_of (by omega) (Int.mul_le_mul_of_nonneg_left (by omega) h0)
        obtain ⟨q, hqq⟩ : ∃ q, D * x / (x + R) = q := ⟨_, rfl⟩
        rw [hqq] at hq hqD ⊢
        have h5 : q * (x' - x) ≤ D * (x' - x) := Int.mul_le_mul_of_nonneg_right hqD (by omega)
        have e5 : q * (x' + R) = q * (x + R) + q * (x' - x) := by rw [← Int.mul_add]; congr 1; omega
        have e6 : D * x' = D * x + D * (x' - x) := by rw [← Int.mul_add]; congr 1; omega
        omega
    · have e : gP D R x = 0 := by unfold gP; rw [if_neg (by omega), if_neg h0]
      rw [e]; exact gP_nonneg hR (by omega)
theorem gP_mono {D D' R R' x x' : Int} (hR : 0 ≤ R') (hx : 0 ≤ x) (hD : D ≤ D') (hRR : R' ≤ R) (hxx : x ≤ x') : gP D R x ≤ gP D' R' x' :=
  Int.le_trans (gP_D (by omega) hx hD) (Int.le_trans (gP_R hR hx hRR) (gP_x hR hx hxx))

/-! The sums without one claim. -/
theorem sumR_mid (f : Cl3 → Int) (a b : List Cl3) (c : Cl3) (r : Int) : sumR f (a ++ c :: b) r = sumR f (a ++ b) r + if c.rank = r then f c else 0 := by
  unfold sumR
  simp only [List.map_append, List.sum_append, List.map_cons, List.sum_cons]
  omega
theorem upToR_mid (a b : List Cl3) (c : Cl3) : ∀ r : Nat, (r : Int) ≤ c.rank → upToR (a ++ c :: b) r = upToR (a ++ b) r := by
  intro r
  induction r with
  | zero => intro _; rfl
  | succ r ih =>
    intro h
    simp only [upToR]
    rw [ih (by omega), sumR_mid, if_neg (by omega), Int.add_zero]
theorem payAt_mid {a b : List Cl3} {c : Cl3} {P : Int} (h0 : 0 ≤ c.rank) : payAt (a ++ c :: b) P c = gP (P - upToR (a ++ b) c.rank.toNat) (sumR Cl3.lo (a ++ b) c.rank) c.lo := by
  unfold payAt gP
  rw [upToR_mid a b c _ (by omega), sumR_mid, if_pos rfl]
  obtain ⟨u, hu⟩ : ∃ u, upToR (a ++ b) c.rank.toNat = u := ⟨_, rfl⟩
  obtain ⟨s, hs⟩ : ∃ s, sumR Cl3.lo (a ++ b) c.rank = s := ⟨_, rfl⟩
  obtain ⟨x, hx⟩ : ∃ x, c.lo = x := ⟨_, rfl⟩
  rw [hu, hs, hx]
  by_cases h1 : u + (s + x) ≤ P
  · rw [if_pos h1, if_pos (show x + s ≤ P - u by omega)]
  · rw [if_neg h1, if_neg (show ¬ x + s ≤ P - u by omega)]
    by_cases h2 : u ≤ P
    · rw [if_pos h2, if_pos (show 0 ≤ P - u by omega), Int.add_comm x s]
    · rw [if_neg h2, if_neg (show ¬ 0 ≤ P - u by omega)]
/-- Claims of the same ranks, each at most as much. -/
def Le3 : List Cl3 → List Cl3 → Prop
  | [], [] => True
  | x :: a, y :: b => (x.rank = y.rank ∧ x.lo ≤ y.lo) ∧ Le3 a b
  | _, _ => False
theorem Le3.sumR : ∀ {a b : List Cl3}, Le3 a b → ∀ (r : Int), sumR Cl3.lo a r ≤ sumR Cl3.lo b r := by
  intro a
  induction a with
  | nil => intro b h r; cases b with
    | nil => exact Int.le_refl _
    | cons y b => exact h.elim
  | cons x a ih => intro b h r; cases b with
    | nil => exact h.elim
    | cons y b =>
      have h2 := ih h.2 r
      have hxy := h.1
      unfold Ytblbbhenmhkknaa.sumR at *
      simp only [List.map_cons, List.sum_cons]
      rw [hxy.1]
      split <;> omega
theorem Le3.append : ∀ {a b c d : List Cl3}, Le3 a b → Le3 c d → Le3 (a ++ c) (b ++ d) := by
  intro a
  induction a with
  | nil => intro b c d h k; cases b with
    | nil => exact k
    | cons y b => exact h.elim
  | cons x a ih => intro b c d h k; cases b with
    | nil => exact h.elim
    | cons y b => exact ⟨h.1, ih h.2 k⟩
theorem Le3.of_get : ∀ {a b : List Cl3}, a.length = b.length → (∀ (i : Nat) (x y : Cl3), a[i]? = some x → b[i]? = some y → x.rank = y.rank ∧ x.lo ≤ y.lo) → Le3 a b := by
  intro a
  induction a with
  | nil => intro b hl _; cases b with
    | nil => trivial
    | cons y b => simp at hl
  | cons x a ih => intro b hl h; cases b with
    | nil => simp at hl
    | cons y b => exact ⟨h 0 x y rfl rfl, ih (by simpa using hl) fun i u v hu hv => h (i + 1) u v (by simpa using hu) (by simpa using hv)⟩
theorem Le3.upToR {a b : List Cl3} (h : Le3 a b) : ∀ r, upToR a r ≤ upToR b r := by
  intro r
  induction r with
  | zero => exact Int.le_refl _
  | succ r ih =>
    have := h.sumR r
    simp only [Ytblbbhenmhkknaa.upToR]
    omega
theorem sumR_nonneg {l : List Cl3} (h : ∀ x ∈ l, 0 ≤ x.lo) (r : Int) : 0 ≤ sumR Cl3.lo l r := by
  induction l with
  | nil => simp [sumR]
  | cons x l ih =>
    have := ih fun y hy => h y (by simp [hy])
    have := h x (by simp)
    unfold sumR at *
    simp only [List.map_cons, List.sum_cons]
    split <;> omega
/-- With more proceeds, more cents of its own, and less of the others, a claim gets no less. -/
theorem pay_mono {a b a' b' : List Cl3} {c c' : Cl3} {P P' : Int} (h0 : 0 ≤ c.rank) (hr : c.rank = c'.rank) (hx : 0 ≤ c.lo) (hxx : c.lo ≤ c'.lo) (hP : P ≤ P') (hn : ∀ x ∈ a' ++ b', 0 ≤ x.lo) (h : Le3 (a' ++ b') (a ++ b)) :
    payAt (a ++ c :: b) P c ≤ payAt (a' ++ c' :: b') P' c' := by
  rw [payAt_mid h0, payAt_mid (by omega), ← hr]
  have h1 := h.upToR c.rank.toNat
  exact gP_mono (sumR_nonneg hn _) hx (by omega) (h.sumR _) hxx

theorem split_at {α : Type} {l : List α} {i : Nat} {x : α} (h : l[i]? = some x) : l = l.take i ++ x :: l.drop (i + 1) := by
  obtain ⟨hi, rfl⟩ := List.getElem?_eq_some_iff.1 h
  rw [List.getElem_cons_drop hi, List.take_append_drop]
/-- Two lists of claims of the same ranks. -/
theorem justL_split {L : List Cl3} {d : Nat → Int} {i : Nat} {c : Cl3} (h : L[i]? = some c) : (justL L d)[i]? = some ⟨c.rank, d i, d i⟩ := by
  simp [justL, List.getElem?_mapIdx, h]
theorem Le3.justL {L : List Cl3} {d d' : Nat → Int} {i : Nat} (h : ∀ j, j < L.length → j ≠ i → d j ≤ d' j) : Le3 ((justL L d).take i ++ (justL L d).drop (i + 1)) ((Ytblbbhenmhkknaa.justL L d').take i ++ (Ytblbbhenmhkknaa.justL L d').drop (i + 1)) := by
  have hl : ∀ d, (Ytblbbhenmhkknaa.justL L d).length = L.length := fun d => justL_len L d
  have hget : ∀ (d : Nat → Int) (j : Nat) (x : Cl3), (Ytblbbhenmhkknaa.justL L d)[j]? = some x → ∃ c, L[j]? = some c ∧ x = ⟨c.rank, d j, d j⟩ := fun d j x hx => by
    simp only [Ytblbbhenmhkknaa.justL, List.getElem?_mapIdx] at hx
    cases hc : L[j]? with
    | none => rw [hc] at hx; simp at hx
    | some c =>
      rw [hc] at hx
      simp only [Option.map_some, Option.some.injEq] at hx
      exact ⟨c, rfl, hx.symm⟩
  have key : ∀ (j : Nat) (x y : Cl3), j ≠ i → (Ytblbbhenmhkknaa.justL L d)[j]? = some x → (Ytblbbhenmhkknaa.justL L d')[j]? = some y → x.rank = y.rank ∧ x.lo ≤ y.lo := fun j x y hj hx hy => by
    obtain ⟨c, hc, rfl⟩ := hget d j x hx
    obtain ⟨c', hc', rfl⟩ := hget d' j y hy
    rw [hc] at hc'
    injection hc' with hc'
    subst hc'
    exact ⟨rfl, h j (List.getElem?_eq_some_iff.1 hc).1 hj⟩
  refine Le3.append ?_ ?_
  · refine Le3.of_get (by rw [List.length_take, List.length_take, hl, hl]) fun j x y hx hy => ?_
    rw [List.getElem?_take] at hx hy
    split at hx
    · rename_i hji
      rw [if_pos hji] at hy
      exact key j x y (by omega) hx hy
    · cases hx
  · refine Le3.of_get (by rw [List.length_drop, List.length_drop, hl, hl]) fun j x y hx hy => ?_
    rw [List.getElem?_drop] at hx hy
    exact key (i + 1 + j) x y (by omega) hx hy
theorem justL_nonneg {L : List Cl3} {d : Nat → Int} {i : Nat} (h : ∀ j, j < L.length → 0 ≤ d j) : ∀ x ∈ (justL L d).take i ++ (justL L d).drop (i + 1), 0 ≤ x.lo := by
  intro x hx
  have hm : x ∈ justL L d := by
    rcases List.mem_append.1 hx with hx | hx
    · exact List.mem_of_mem_take hx
    · exact List.mem_of_mem_drop hx
  obtain ⟨j, hj⟩ := List.getElem?_of_mem hm
  simp only [justL, List.getElem?_mapIdx] at hj
  cases hc : L[j]? with
  | none => rw [hc] at hj; simp at hj
  | some c =>
    rw [hc] at hj
    simp only [Option.map_some, Option.some.injEq] at hj
    subst hj
    exact h j (List.getElem?_eq_some_iff.1 hc).1
/-- The same, of claims of just so many cents. -/
theorem payJ_mono {L : List Cl3} {d d' : Nat → Int} {P P' : Int} {i : Nat} {c : Cl3} (hc : L[i]? = some c) (h0 : 0 ≤ c.rank) (hx : 0 ≤ d i) (hxx : d i ≤ d' i) (hP : P ≤ P') (hn : ∀ j, j < L.length → 0 ≤ d' j) (h : ∀ j, j < L.length → j ≠ i → d' j ≤ d j) :
    payAt (justL L d) P ⟨c.rank, d i, d i⟩ ≤ payAt (justL L d') P' ⟨c.rank, d' i, d' i⟩ := by
  have e1 := split_at (justL_split (d := d) hc)
  have e2 := split_at (justL_split (d := d') hc)
  rw [e1, e2]
  exact pay_mono h0 rfl hx hxx hP (justL_nonneg hn) (Le3.justL h)
end Go.Proofs.Ytblbbhenmhkknaa

namespace Go.Proofs.Ytblbbhenmhkknaa
open Go.RowKit

theorem shareV_at {L : List Cl3} {d : Nat → Int} {P : Int} {i : Nat} {c : Cl3} (h : L[i]? = some c) : shareV L d P i = payAt (justL L d) P ⟨c.rank, d i, d i⟩ := by
  unfold shareV
  rw [List.getD_eq_getElem?_getD, pays_get (justL_split h)]
  rfl
theorem l3_at {cs : List Clm} {i : Nat} {c : Clm} (h : cs[i]? = some c) : (cs.map c3)[i]? = some (c3 c) := by simp [h]
theorem jl_eq (cs : List Clm) (ds : List Int) : jl cs ds = justL (cs.map c3) fun i => ds.getD i 0 := rfl
theorem getD_at {ds : List Int} {i : Nat} {d : Int} (h : ds[i]? = some d) : ds.getD i 0 = d := by rw [List.getD_eq_getElem?_getD, h]; rfl
theorem TruthOk.at_ {lo hi : Int} {cs : List Clm} {P : Int} {ds : List Int} (h : TruthOk lo hi cs P ds) {i : Nat} (hi : i < (cs.map c3).length) : ∃ c d, cs[i]? = some c ∧ ds[i]? = some d ∧ c.lo ≤ d ∧ d ≤ c.hi ∧ 0 ≤ c.lo ∧ c.hi ≤ 1000000000 ∧ 1 ≤ c.rank ∧ c.rank ≤ 5 ∧ (cs.map c3)[i]? = some (c3 c) ∧ ds.getD i 0 = d := by
  rw [List.length_map] at hi
  obtain ⟨c, hc⟩ : ∃ c, cs[i]? = some c := ⟨_, List.getElem?_eq_getElem hi⟩
  obtain ⟨d, hd⟩ : ∃ d, ds[i]? = some d := ⟨_, List.getElem?_eq_getElem (by rw [h.len]; exact hi)⟩
  have h1 := h.cents i c d hc hd
  have h2 := (est_ok h.est).each c (List.mem_of_getElem? hc)
  exact ⟨c, d, hc, hd, h1.1, h1.2, h2.2.2.2.1, h2.2.2.2.2.2, h2.2.1, h2.2.2.1, l3_at hc, getD_at hd⟩
theorem dLo_at {L : List Cl3} {i j : Nat} {c : Cl3} (h : L[j]? = some c) : dLo L i j = if j = i then c.lo else c.hi := by simp [dLo, h]
theorem dHi_at {L : List Cl3} {i j : Nat} {c : Cl3} (h : L[j]? = some c) : dHi L i j = if j = i then c.hi else c.lo := by simp [dHi, h]

theorem true_low {lo hi : Int} {cs : List Clm} {P : Int} {ds : List Int} (h : TruthOk lo hi cs P ds) {i : Nat} {c : Clm} {d : Int} (hc : cs[i]? = some c) (hd : ds[i]? = some d) :
    shareV (cs.map c3) (dLo (cs.map c3) i) lo i ≤ payAt (jl cs ds) P ⟨c.rank, d, d⟩ := by
  have hi : i < (cs.map c3).length := by simpa using (List.getElem?_eq_some_iff.1 hc).1
  obtain ⟨c', d', e1, e2, k1, k2, k3, k4, k5, k6, k7, k8⟩ := h.at_ hi
  rw [hc] at e1; rw [hd] at e2
  injection e1 with e1; injection e2 with e2
  subst e1 e2
  rw [shareV_at k7, jl_eq]
  have hdi : dLo (cs.map c3) i i = c.lo := by rw [dLo_at k7, if_pos rfl]; rfl
  have := payJ_mono (d := dLo (cs.map c3) i) (d' := fun i => ds.getD i 0) (P := lo) (P' := P) (i := i) k7 (by show 0 ≤ c.rank; omega) (by rw [hdi]; exact k3) (by rw [hdi]; simp only [k8]; exact k1) h.pro.1 (fun j hj => by
    obtain ⟨cj, dj, _, _, q1, _, q3, _, _, _, _, q8⟩ := h.at_ hj
    simp only [q8]; omega) (fun j hj hji => by
    obtain ⟨cj, dj, _, _, q1, q2, q3, _, _, _, q7, q8⟩ := h.at_ hj
    rw [dLo_at q7, if_neg hji]
    simp only [q8]; exact q2)
  simp only [k8] at this
  exact this
theorem true_high {lo hi : Int} {cs : List Clm} {P : Int} {ds : List Int} (h : TruthOk lo hi cs P ds) {i : Nat} {c : Clm} {d : Int} (hc : cs[i]? = some c) (hd : ds[i]? = some d) :
    payAt (jl cs ds) P ⟨c.rank, d, d⟩ ≤ shareV (cs.map c3) (dHi (cs.map c3) i) hi i := by
  have hi' : i < (cs.map c3).length := by simpa using (List.getElem?_eq_some_iff.1 hc).1
  obtain ⟨c', d', e1, e2, k1, k2, k3, k4, k5, k6, k7, k8⟩ := h.at_ hi'
  rw [hc] at e1; rw [hd] at e2
  injection e1 with e1; injection e2 with e2
  subst e1 e2
  rw [shareV_at k7, jl_eq]
  have hdi : dHi (cs.map c3) i i = c.hi := by rw [dHi_at k7, if_pos rfl]; rfl
  have := payJ_mono (d := fun i => ds.getD i 0) (d' := dHi (cs.map c3) i) (P := P) (P' := hi) (i := i) k7 (by show 0 ≤ c.rank; omega) (by simp only [k8]; omega) (by rw [hdi]; simp only [k8]; exact k2) h.pro.2 (fun j hj => by
    obtain ⟨cj, dj, _, _, q1, q2, q3, _, _, _, q7, q8⟩ := h.at_ hj
    rw [dHi_at q7]
    split
    · show 0 ≤ cj.hi; omega
    · exact q3) (fun j hj hji => by
    obtain ⟨cj, dj, _, _, q1, q2, q3, _, _, _, q7, q8⟩ := h.at_ hj
    rw [dHi_at q7, if_neg hji]
    simp only [q8]; exact q1)
  simp only [k8] at this
  exact this

theorem sumR_hi {L : List Cl3} (r : Int) : sumR Cl3.lo (L.map fun c => ⟨c.rank, c.hi, c.hi⟩) r = sumR Cl3.hi L r := by
  unfold sumR
  rw [List.map_map]
  rfl
theorem upTo_hi {L : List Cl3} : ∀ r, upToR (L.map fun c => ⟨c.rank, c.hi, c.hi⟩) r = upToH L r := by
  intro r
  induction r with
  | zero => rfl
  | succ r ih => simp only [upToR, upToH]; rw [ih, sumR_hi]
theorem le3_hi {L : List Cl3} {d : Nat → Int} (h : ∀ j c, L[j]? = some c → d j ≤ c.hi) : Le3 (justL L d) (L.map fun c => ⟨c.rank, c.hi, c.hi⟩) := by
  refine Le3.of_get (by rw [justL_len, List.length_map]) fun j x y hx hy => ?_
  rw [List.getElem?_map] at hy
  cases hc : L[j]? with
  | none => rw [hc] at hy; simp at hy
  | some c =>
    rw [justL_split hc] at hx
    rw [hc] at hy
    simp only [Option.map_some, Option.some.injEq] at hx hy
    subst hx hy
    exact ⟨rfl, h j c hc⟩
theorem payAt_full {l : List Cl3} {P : Int} {c : Cl3} (h0 : 0 ≤ c.rank) (h : upToR l (c.rank.toNat + 1) ≤ P) : payAt l P c = c.lo := by
  unfold payAt
  rw [if_pos]
  have e : upToR l (c.rank.toNat + 1) = upToR l c.rank.toNat + sumR Cl3.lo l (c.rank.toNat : Int) := rfl
  rw [show ((c.rank.toNat : Nat) : Int) = c.rank from by omega] at e
  omega
/-- Who is surely paid gets all cents. -/
theorem sure_full {lo hi : Int} {cs : List Clm} {P : Int} {ds : List Int} (h : TruthOk lo hi cs P ds) {i : Nat} {c : Clm} {d : Int} (hc : cs[i]? = some c) (hd : ds[i]? = some d) {n : Int} (hn : needI (cs.map c3) (c3 c) ≤ n) (hnP : n ≤ P) :
    payAt (jl cs ds) P ⟨c.rank, d, d⟩ = d := by
  have hi' : i < (cs.map c3).length := by simpa using (List.getElem?_eq_some_iff.1 hc).1
  obtain ⟨c', d', e1, e2, k1, k2, k3, k4, k5, k6, k7, k8⟩ := h.at_ hi'
  rw [hc] at e1; rw [hd] at e2
  injection e1 with e1; injection e2 with e2
  subst e1 e2
  by_cases hz : c.hi = 0
  · have hd0 : d = 0 := by omega
    subst hd0
    exact payAt_zero h.ok3 (List.mem_of_getElem? (by rw [jl_at hc, k8])) rfl
  · have hn' : upToH (cs.map c3) (c.rank.toNat + 1) ≤ P := by
      have : needI (cs.map c3) (c3 c) = upToH (cs.map c3) (c.rank.toNat + 1) := by unfold needI; rw [if_neg (by show ¬ c.hi = 0; exact hz)]; rfl
      omega
    refine payAt_full (c := ⟨c.rank, d, d⟩) (by show 0 ≤ c.rank; omega) ?_
    have hle := (le3_hi (L := cs.map c3) (d := fun i => ds.getD i 0) (fun j cj hj => by
      have hjl := (List.getElem?_eq_some_iff.1 hj).1
      obtain ⟨cj', dj, _, _, _, q2, _, _, _, _, q7, q8⟩ := h.at_ hjl
      rw [hj] at q7
      injection q7 with q7
      subst q7
      simp only [q8]; exact q2)).upToR (c.rank.toNat + 1)
    rw [upTo_hi] at hle
    rw [jl_eq]
    show upToR _ (c.rank.toNat + 1) ≤ P
    omega
theorem sureL_mem {lo : Int} {L : List Cl3} {n v : Nat} (h : v ∈ sureL lo L n) : v < n ∧ ∃ c, L[v]? = some c ∧ needI L c ≤ lo := by
  unfold sureL at h
  rw [List.mem_filter, List.mem_range] at h
  refine ⟨h.1, ?_⟩
  have h2 := h.2
  split at h2
  · rename_i c hc
    exact ⟨c, hc, by simpa using h2⟩
  · cases h2
theorem sureL_asc (lo : Int) (L : List Cl3) (n : Nat) : (sureL lo L n).Pairwise (· < ·) := by
  unfold sureL; exact List.Pairwise.filter _ List.pairwise_lt_range
theorem pairwise_step {l : List Nat} (h : l.Pairwise (· < ·)) {i a b : Nat} (ha : l[i]? = some a) (hb : l[i + 1]? = some b) : a < b := by
  obtain ⟨h1, rfl⟩ := List.getElem?_eq_some_iff.1 ha
  obtain ⟨h2, rfl⟩ := List.getElem?_eq_some_iff.1 hb
  exact List.pairwise_iff_getElem.1 h i (i + 1) h1 h2 (by omega)
theorem rangesL_at {lo hi : Int} {L : List Cl3} {n i : Nat} (h : i < n) : (rangesL lo hi L n)[i]? = some (shareV L (dLo L i) lo i, shareV L (dHi L i) hi i) := by
  unfold rangesL
  rw [List.getElem?_map, List.getElem?_range h]
  rfl
end Go.Proofs.Ytblbbhenmhkknaa

namespace Go.Proofs.Ytblbbhenmhkknaa
open Go.RowKit

def endX (hg : Bool) (cs : List Clm) (a i : Nat) : Int := if hg = true then dHi (cs.map c3) a i else dLo (cs.map c3) a i
def endD (hg : Bool) (cs : List Clm) (a k : Nat) : List Int := (List.range k).map fun i => endX hg cs a i
theorem endD_len (hg : Bool) (cs : List Clm) (a k : Nat) : (endD hg cs a k).length = k := by simp [endD]
theorem endD_succ (hg : Bool) (cs : List Clm) (a k : Nat) : endD hg cs a (k + 1) = endD hg cs a k ++ [endX hg cs a k] := by
  unfold endD; rw [List.range_succ, List.map_append]; simp
theorem endX_hi {hg : Bool} {cs : List Clm} {a k : Nat} {c : Clm} (h : cs[k]? = some c) (hq : (((k : Int) == (a : Int)) == hg) = true) : endX hg cs a k = c.hi := by
  have h3 := l3_at h
  unfold endX
  rw [dHi_at h3, dLo_at h3]
  by_cases e : k = a
  · subst e
    have : hg = true := by simpa using hq
    subst this
    simp [c3]
  · have : hg = false := by
      have : ((k : Int) == (a : Int)) = false := by simp; omega
      rw [this] at hq
      simpa using hq
    subst this
    simp [c3, e]
theorem endX_lo {hg : Bool} {cs : List Clm} {a k : Nat} {c : Clm} (h : cs[k]? = some c) (hq : (((k : Int) == (a : Int)) == hg) = false) : endX hg cs a k = c.lo := by
  have h3 := l3_at h
  unfold endX
  rw [dHi_at h3, dLo_at h3]
  by_cases e : k = a
  · subst e
    have : hg = false := by simpa using hq
    subst this
    simp [c3]
  · have : hg = true := by
      have : ((k : Int) == (a : Int)) = false := by simp; omega
      rw [this] at hq
      simpa using hq
    subst this
    simp [c3, e]
def endP (hg : Bool) (lo hi : Int) : Int := if hg = true then hi else lo

def EndPost (hg : Bool) (lo hi : Int) (cs : List Clm) (a : Nat) (w : World) (e : Ending) (w' : World) : Prop :=
  ∃ A cap, e = .returned (.agg #[iv (endP hg lo hi), .slice A cs.length cap]) ∧ w'.ownsRow w.heap.size 3 1 (.slice A cs.length cap) cs.length ((endD hg cs a cs.length).map iv) ∧ Below w.heap.size w w'

set_option maxRecDepth 100000 in
set_option maxHeartbeats 4000000 in
theorem end_any (hg : Bool) (lo hi : Int) (A : Option Addr) (cs : List Clm) (B cap a : Nat) (w : World) (hR : RdN 4 encClm w B A cs) (hB : B ≤ w.heap.size) (hle8 : cs.length ≤ 9) :
    Calls Try.prog 50 #[.agg #[.int .i64 lo, .int .i64 hi, .slice A cs.length cap], .int .i64 a, .bool hg] w (EndPost hg lo hi cs a w) := by
  obtain ⟨i3, hi3, hz30, hz31, hz32⟩ := info_parts Try.info3
  obtain ⟨W1, hW1⟩ : ∃ W1, (w.alloc (.cells #[.int .i64 lo, .int .i64 hi, .slice A cs.length cap] 42)).alloc (.cells #[.int .i64 0, .slice none 0 0] 44) = W1 := ⟨_, rfl⟩
  have hb0 : Below w.heap.size w W1 := by rw [← hW1]; exact belowA (belowA (belowR _) _) _
  have p0 : W1.cell? ⟨w.heap.size, 0, none⟩ = some (.int .i64 lo) := by rw [← hW1]; clear hW1; go_simp
  have p1 : W1.cell? ⟨w.heap.size, 1, none⟩ = some (.int .i64 hi) := by rw [← hW1]; clear hW1; go_simp
  have p2 : W1.cell? ⟨w.heap.size, 2, none⟩ = some (.slice A cs.length cap) := by rw [← hW1]; clear hW1; go_simp
  have q0 : W1.cell? ⟨w.heap.size + 1, 0, none⟩ = some (.int .i64 0) := by rw [← hW1]; clear hW1; go_simp
  have q1 : W1.cell? ⟨w.heap.size + 1, 1, none⟩ = some (.slice none 0 0) := by rw [← hW1]; clear hW1; go_simp
  have fz : ∀ o, W1.frozen? ⟨w.heap.size + 1, o, none⟩ = false := fun o => by rw [← hW1]; clear hW1; go_simp
  have HFZ := Lib.hid fz
  have HB0 := Lib.hid hb0
  have HR1 := Lib.hid (hR.below hb0 hB)
  have HQ : Hid (W1.cell? ⟨w.heap.size, 2, none⟩ = some (.slice A cs.length cap) ∧ W1.cell? ⟨w.heap.size + 1, 0, none⟩ = some (.int .i64 0) ∧ W1.cell? ⟨w.heap.size + 1, 1, none⟩ = some (.slice none 0 0)) := Lib.hid ⟨p2, q0, q1⟩
  have hz1 : w.heap.size + 1 < W1.heap.size := lt_of_cell q0
  clear fz hb0 hR p2 q0 q1
  go_enter Try.func50, Try.ntmps50
  go_upto_region 1 with fail
  clear hW1
  go_cut [7] (fun s7 wx => ∃ g : Nat, s7 = .pointer (some ⟨g, 0, none⟩) ∧ W1.heap.size ≤ g ∧ wx.cell? ⟨g, 0, none⟩ = some (.int .i64 lo) ∧ wx.cell? ⟨g, 1, none⟩ = some (.slice none 0 0) ∧ (∀ o, wx.frozen? ⟨g, o, none⟩ = false) ∧ Below W1.heap.size W1 wx)
  case first =>
    go_wp2_with fail
    go_meet
    exact ⟨W1.heap.size, rfl, Nat.le_refl _, by go_simp, by go_simp, fun o => by go_simp, belowA (belowR _) _⟩
  case rest =>
    obtain ⟨g, rfl, hg0, c0, c1, cf, hbx⟩ := hcut
    obtain ⟨wx, rfl⟩ : ∃ W, W = wc := ⟨_, rfl⟩
    have k1 := keepC hbx p1
    have hlg := lt_of_cell c0
    have hcf0 := cf 0
    go_upto_if 14 with fail
    go_cut [] (fun wy => wy.cell? ⟨g, 0, none⟩ = some (.int .i64 (endP hg lo hi)) ∧ wy.cell? ⟨g, 1, none⟩ = some (.slice none 0 0) ∧ (∀ o, wy.frozen? ⟨g, o, none⟩ = false) ∧ Below W1.heap.size W1 wy)
    case first =>
      cases hg
      all_goals
        go_wp2_with fail
        go_meet
      · exact ⟨c0, c1, cf, hbx⟩
      · exact ⟨by rw [endP, if_pos rfl]; go_simp, by go_simp, fun o => by rw [World.frozen?_setCell]; exact cf o, belowS hbx hg0 _⟩
    case rest =>
      obtain ⟨d0, d1, df, hby⟩ := hcut
      obtain ⟨wy, rfl⟩ : ∃ W, W = wc := ⟨_, rfl⟩
      have hinv : AnyInv g wy.heap.size W1 wy (endP hg lo hi) (.slice none 0 0) 0 ((endD hg cs a 0).map iv) := ⟨d0, d1, df, World.ownsRow_nil _ _ _ _, Nat.le_refl _, lt_of_cell d0, hby⟩
      have HINV := Lib.hid hinv
      have hgy := lt_of_cell d0
      clear hinv c0 c1 cf hbx p0 p1 d0 d1 df hby k1 hcf0 hlg
      obtain ⟨P, hP⟩ : ∃ P, endP hg lo hi = P := ⟨_, rfl⟩
      rw [hP] at HINV
      have HP := Lib.hid hP
      clear hP
      go_wp2
      go_loopw [8] (fun vi wr => ∃ (k : Nat) (v : Value), k ≤ cs.length ∧ vi = .int .i64 k ∧ Hid (AnyInv g wy.heap.size W1 wr P v k ((endD hg cs a k).map iv))) (fun vi _ => cs.length - (intOf vi).toNat)
      case atStart => exact ⟨0, _, Nat.zero_le _, rfl, HINV⟩
      case round =>
        clear HINV
        obtain ⟨k, v, hk, rfl, HI⟩ := hrel
        obtain ⟨c0, c1, cf, own, hsz, hgl, hbw⟩ := HI.out
        have a2 := keepC hbw HQ.out.1
        have OWN := Lib.hid own
        have CF := Lib.hid cf
        have HBW := Lib.hid hbw
        have hzb := hbw.size
        clear own cf
        by_cases hlt : k < cs.length
        · obtain ⟨c, hx⟩ : ∃ x, cs[k]? = some x := ⟨_, List.getElem?_eq_getElem hlt⟩
          have hRr := (HR1.out.below hbw (by omega))
          have hsn := endD_succ hg cs a k
          obtain ⟨b, off, rfl, hbl, e0, e1, e2, e3⟩ := clmAt hRr hx
          have hkz : (k : Int) < (cs.length : Int) := by omega
          have hk0 : (0 : Int) ≤ (k : Int) := by omega
          have HB := Lib.hid hbw
          have HRR := Lib.hid hRr
          clear hRr hbw e0 e1 HI
          go_upto_region 8 with fail
          obtain ⟨X, hX⟩ : ∃ X, endX hg cs a k = X := ⟨_, rfl⟩
          rw [hX] at hsn
          have HSN := Lib.hid hsn
          clear hsn
          cases hq : (((k : Int) == (a : Int)) == hg)
          all_goals
            first
              | (have hval := endX_lo hx hq; have hXX := hX.symm.trans hval)
              | (have hval := endX_hi hx hq; have hXX := hX.symm.trans hval)
            have HXX := Lib.hid hXX
            clear hval hXX hX hx
            go_upto_region 10 with fail
            rw [← HXX.out]
            clear HXX e2 e3 hq
            have hnew : ∀ j u, [Value.int .i64 X][j]? = some u → (wr.alloc (.cells #[.int .i64 X] 3)).cell? ((⟨wr.heap.size, 0, none⟩ : Addr).add j) = some u := one_new _ _ _
            have HN := Lib.hid hnew
            have c1A := fun ob => keepA c1 ob
            clear hnew
            go_wp2_with (at_builtin; refine wpList_append_own _ rfl _ _ 32 rfl wy.heap.size 3 i3 (.int .i64 0) 1 8 Try.underlying32 hi3 hz30 hz31 hz32 rfl (by decide) _ _ _ rfl (OWN.out.alloc _) ⟨wr.heap.size, 0, none⟩ 1 1 [.int .i64 X] rfl rfl ?c1 ?c2 ?c3 ?c4 ?c5 ?_)
            case c1 => exact HN.out
            case c2 => simp [Value.oneCell']
            case c3 => unfold maxLen; omega
            case c4 => omega
            case c5 => simp; omega
            intro v' w5 hown5 hgrow _
            have hownA := OWN.out.alloc (.cells #[.int .i64 X] 3)
            have y1 : w5.cell? ⟨g, 1, none⟩ = some v := grownC hownA hgrow hgl (keepA c1 _)
            have y2 : w5.frozen? ⟨g, 1, none⟩ = false := ((grownF hownA hgrow hgl (keepA c1 _)).trans (keepAF (lt_of_cell c1) 1 _)).trans (CF.out 1)
            have hB5 : Below W1.heap.size W1 w5 := grownB (a := W1) hownA hgrow (by omega) (belowA HBW.out _)
            have y3 : w5.cell? ⟨g, 0, none⟩ = some (.int .i64 P) := grownC hownA hgrow hgl (keepA c0 _)
            have y4 : ∀ o, w5.frozen? ⟨g, o, none⟩ = false := fun o => (grownFz hownA hgrow o hgl (by have := lt_of_cell c1; simp; omega)).trans ((keepAF (lt_of_cell c1) o _).trans (CF.out o))
            have hinv : AnyInv g wy.heap.size W1 (w5.setCell ⟨g, 1, none⟩ v') P v' (k + 1) ((endD hg cs a (k + 1)).map iv) := by
              obtain ⟨gg, cap9, rfl, _⟩ := own_form hown5 (by omega)
              refine ⟨by go_simp, by go_simp, fun o => by rw [World.frozen?_setCell]; exact y4 o, ?_, by simp only [World.size_setCell]; have := hgrow.size; simp at *; omega, hgl, belowS hB5 hg0 _⟩
              rw [HSN.out, List.map_append]
              exact ownsRow_setCell_below hown5 (a := ⟨g, 1, none⟩) hgl _
            have HINV := Lib.hid hinv
            obtain ⟨gg, cap9, rfl, _⟩ := own_form hown5 (by omega)
            clear hinv hown5 hgrow hownA y3 y4 hB5 c1A c0 c1 HN
            go_wp2
            go_roundw
            case rel => exact ⟨k + 1, _, by omega, by go_num, HINV⟩
            case measure => simp [intOf]; omega
        · obtain rfl : k = cs.length := by omega
          obtain ⟨A2, cap2, rfl, _⟩ := own_rd1 (xs := endD hg cs a cs.length) (enc := iv) (by rw [endD_len]; exact OWN.out)
          rw [endD_len] at c1 OWN
          have d0 : wr.cell? ⟨w.heap.size + 1, 0, none⟩ = some (.int .i64 0) := keepC HBW.out HQ.out.2.1
          have d1 : wr.cell? ⟨w.heap.size + 1, 1, none⟩ = some (.slice none 0 0) := keepC HBW.out HQ.out.2.2
          have df : ∀ o, wr.frozen? ⟨w.heap.size + 1, o, none⟩ = false := fun o => (World.frozen?_of_block (w := W1) (a := ⟨w.heap.size + 1, o, none⟩) (HBW.out.block _ hz1)).trans (HFZ.out o)
          have f0 := df 0
          have f1 := df 1
          have hown2 := ownsRow_setCell_below (ownsRow_setCell_below OWN.out (a := ⟨w.heap.size + 1, 0, none⟩) (by simp; omega) (.int .i64 P)) (a := ⟨w.heap.size + 1, 1, none⟩) (by simp; omega) (.slice A2 cs.length cap2)
          have HOWN := Lib.hid (ownsRow_base2 hown2 (show w.heap.size ≤ wy.heap.size by omega))
          clear df hown2
          go_wp2
          have r0 : ((wr.setCell ⟨w.heap.size + 1, 0, none⟩ (.int .i64 P)).setCell ⟨w.heap.size + 1, 1, none⟩ (.slice A2 cs.length cap2)).cell? ⟨w.heap.size + 1, 0, none⟩ = some (.int .i64 P) := by go_simp
          have r1 : ((wr.setCell ⟨w.heap.size + 1, 0, none⟩ (.int .i64 P)).setCell ⟨w.heap.size + 1, 1, none⟩ (.slice A2 cs.length cap2)).cell? ⟨w.heap.size + 1, 1, none⟩ = some (.slice A2 cs.length cap2) := by go_simp
          exact bodyPost_ret (v := .agg #[iv P, .slice A2 cs.length cap2]) (by simp [results, Try.results50, go_sem, r0, r1]) rfl ⟨A2, cap2, by rw [HP.out], HOWN.out, belowS (belowS (belowT HB0.out HBW.out) (by simp) _) (by simp) _⟩
end Go.Proofs.Ytblbbhenmhkknaa
