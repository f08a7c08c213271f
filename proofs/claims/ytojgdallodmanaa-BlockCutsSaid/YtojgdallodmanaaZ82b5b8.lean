/- What parts can weigh: the plain law of sums over sets, of what adds up and of what is capped. No program is named here. What the tree of weighings says is what the truths are. No program is named here. The tree that is built of weighings without an error: its nodes are those of a tree of sets. No program is named here. What weighings tell of a hull: the truths that agree, and what the tree of weighings says of them. No program is named here. -/
import Derived.Test.YtojgdallodmanaaZ155d8b
namespace Go.Proofs.Ytojgdallodmanaa

/-- The sum of numbers over the first k that are in a set. -/
def sumTo (w : Nat → Int) (P : Nat → Bool) : Nat → Int
  | 0 => 0
  | k + 1 => sumTo w P k + if P k then w k else 0
def sumP (w : Nat → Int) (P : Nat → Bool) : Int := sumTo w P 8
def sumS (w : Nat → Int) (s : Nat) : Int := sumP w (fun i => s.testBit i)

theorem sumTo_congr {w w' : Nat → Int} {P Q : Nat → Bool} : ∀ k, (∀ i, i < k → P i = Q i) → (∀ i, i < k → P i = true → w i = w' i) → sumTo w P k = sumTo w' Q k := by
  intro k
  induction k with
  | zero => intros; rfl
  | succ k ih =>
    intro h1 h2
    simp only [sumTo]
    rw [ih (fun i hi => h1 i (by omega)) (fun i hi => h2 i (by omega)), ← h1 k (by omega)]
    cases hk : P k with
    | true => rw [if_pos rfl, if_pos rfl, h2 k (by omega) hk]
    | false => simp
theorem sumP_congr {w w' : Nat → Int} {P Q : Nat → Bool} (h1 : ∀ i, i < 8 → P i = Q i) (h2 : ∀ i, i < 8 → P i = true → w i = w' i) : sumP w P = sumP w' Q := sumTo_congr 8 h1 h2
theorem sumTo_union {w : Nat → Int} {P Q : Nat → Bool} : ∀ k, (∀ i, i < k → ¬ (P i = true ∧ Q i = true)) → sumTo w (fun i => P i || Q i) k = sumTo w P k + sumTo w Q k := by
  intro k
  induction k with
  | zero => intros; rfl
  | succ k ih =>
    intro h
    simp only [sumTo]
    rw [ih (fun i hi => h i (by omega))]
    have := h k (by omega)
    by_cases hp : P k = true
    · by_cases hq : Q k = true
      · exact absurd ⟨hp, hq⟩ this
      · rw [if_pos hp, if_neg hq, if_pos (by simp [hp])]; omega
    · by_cases hq : Q k = true
      · rw [if_neg hp, if_pos hq, if_pos (by simp [hq])]; omega
      · rw [if_neg hp, if_neg hq, if_neg (by simp [hp, hq])]; omega
theorem sumP_union {w : Nat → Int} {P Q : Nat → Bool} (h : ∀ i, i < 8 → ¬ (P i = true ∧ Q i = true)) : sumP w (fun i => P i || Q i) = sumP w P + sumP w Q := sumTo_union 8 h
theorem sumTo_none {w : Nat → Int} {P : Nat → Bool} : ∀ k, (∀ i, i < k → P i = false) → sumTo w P k = 0 := by
  intro k
  induction k with
  | zero => intros; rfl
  | succ k ih =>
    intro h
    simp only [sumTo]
    rw [ih (fun i hi => h i (by omega)), h k (by omega)]
    simp
theorem sumTo_one {w : Nat → Int} {P : Nat → Bool} {j : Nat} : ∀ k, j < k → (∀ i, i < k → P i = decide (i = j)) → sumTo w P k = w j := by
  intro k
  induction k with
  | zero => intro h; omega
  | succ k ih =>
    intro hj h
    simp only [sumTo]
    rw [h k (by omega)]
    by_cases hk : k = j
    · subst hk
      rw [sumTo_none k (fun i hi => by rw [h i (by omega)]; simp; omega)]
      simp
    · rw [ih (by omega) (fun i hi => h i (by omega))]
      simp [hk]

/-- What can be said of the sums of what F allows on the parts P, of which S are looked at. -/
structure Good (S P : Nat → Bool) (F : (Nat → Int) → Prop) (m : Mass) : Prop where
  up : ∀ w, F w → m.alo ≤ sumP w P ∧ sumP w P ≤ m.ahi ∧ sumP w (fun i => P i && S i) ≤ m.shi ∧ sumP w (fun i => P i && S i) ≤ m.slo + sumP w P - m.alo
  is : ∀ t, m.alo ≤ t → t ≤ m.ahi → ∃ w, F w ∧ sumP w P = t ∧ sumP w (fun i => P i && S i) = min m.shi (m.slo + t - m.alo)
  a : m.alo ≤ m.ahi
  s : m.slo ≤ m.shi
  d : m.shi - m.slo ≤ m.ahi - m.alo
  loc : ∀ w w', (∀ i, i < 8 → P i = true → w i = w' i) → F w → F w'
theorem Good.congr {S P Q : Nat → Bool} {F G : (Nat → Int) → Prop} {m : Mass} (h : Good S P F m) (hP : ∀ i, i < 8 → P i = Q i) (hF : ∀ w, F w ↔ G w) : Good S Q G m := by
  have e1 : ∀ w, sumP w Q = sumP w P := fun w => sumP_congr (fun i hi => (hP i hi).symm) (fun _ _ _ => rfl)
  have e2 : ∀ w, sumP w (fun i => Q i && S i) = sumP w (fun i => P i && S i) := fun w => sumP_congr (fun i hi => by rw [hP i hi]) (fun _ _ _ => rfl)
  refine ⟨fun w hw => ?_, fun t h1 h2 => ?_, h.a, h.s, h.d, fun w w' hww hw => (hF w').1 (h.loc w w' (fun i hi hp => hww i hi (by rw [← hP i hi]; exact hp)) ((hF w).2 hw))⟩
  · rw [e1, e2]; exact h.up w ((hF w).2 hw)
  · obtain ⟨w, a, b, c⟩ := h.is t h1 h2
    exact ⟨w, (hF w).1 a, by rw [e1]; exact b, by rw [e2]; exact c⟩

theorem Good.none (S : Nat → Bool) : Good S (fun _ => false) (fun _ => True) ⟨0, 0, 0, 0⟩ := by
  have e : ∀ w : Nat → Int, sumP w (fun _ => false) = 0 := fun w => sumTo_none 8 fun _ _ => rfl
  refine ⟨fun w _ => ?_, fun t h1 h2 => ⟨fun _ => 0, trivial, ?_, ?_⟩, by simp, by simp, by simp, fun _ _ _ _ => trivial⟩
  · simp only [Bool.false_and, e]; omega
  · rw [e]; simp only at h1 h2; omega
  · simp only [Bool.false_and, e]; simp only at h1 h2; omega
theorem Good.part (S : Nat → Bool) {j : Nat} (hj : j < 8) {lo hi : Int} (h : lo ≤ hi) : Good S (fun i => decide (i = j)) (fun w => lo ≤ w j ∧ w j ≤ hi) (if S j then ⟨lo, hi, lo, hi⟩ else ⟨lo, hi, 0, 0⟩) := by
  have e : ∀ w : Nat → Int, sumP w (fun i => decide (i = j)) = w j := fun w => sumTo_one 8 hj fun _ _ => rfl
  cases hs : S j with
  | true =>
    have e2 : ∀ w : Nat → Int, sumP w (fun i => decide (i = j) && S i) = w j := fun w => sumTo_one 8 hj fun i _ => by
      by_cases hij : i = j
      · subst hij; simp [hs]
      · simp [hij]
    refine ⟨fun w hw => ?_, fun t h1 h2 => ⟨fun _ => t, ?_, ?_, ?_⟩, ?_, ?_, ?_, fun w w' hww hw => by rw [← hww j hj (by simp)]; exact hw⟩
    all_goals simp only [if_true, e, e2] at *
    all_goals omega
  | false =>
    have e2 : ∀ w : Nat → Int, sumP w (fun i => decide (i = j) && S i) = 0 := fun w => sumTo_none 8 fun i _ => by
      by_cases hij : i = j
      · subst hij; simp [hs]
      · simp [hij]
    refine ⟨fun w hw => ?_, fun t h1 h2 => ⟨fun _ => t, ?_, ?_, ?_⟩, ?_, ?_, ?_, fun w w' hww hw => by rw [← hww j hj (by simp)]; exact hw⟩
    all_goals simp only [Bool.false_eq_true, if_false, e, e2] at *
    all_goals omega
theorem Good.add {S P Q : Nat → Bool} {F G : (Nat → Int) → Prop} {m y : Mass} (h : Good S P F m) (k : Good S Q G y) (hd : ∀ i, i < 8 → ¬ (P i = true ∧ Q i = true)) : Good S (fun i => P i || Q i) (fun w => F w ∧ G w) (addM m y) := by
  have e1 : ∀ w, sumP w (fun i => P i || Q i) = sumP w P + sumP w Q := fun w => sumP_union hd
  have e2 : ∀ w, sumP w (fun i => (P i || Q i) && S i) = sumP w (fun i => P i && S i) + sumP w (fun i => Q i && S i) := fun w => by
    rw [← sumP_union (fun i hi h => hd i hi (by simp only [Bool.and_eq_true] at h; exact ⟨h.1.1, h.2.1⟩))]
    exact sumP_congr (fun i _ => by cases P i <;> cases Q i <;> cases S i <;> rfl) (fun _ _ _ => rfl)
  have ha := h.a
  have hs := h.s
  have hdd := h.d
  have ka := k.a
  have ks := k.s
  have kd := k.d
  refine ⟨fun w hw => ?_, fun t h1 h2 => ?_, by simp only [addM]; omega, by simp only [addM]; omega, by simp only [addM]; omega, fun w w' hww hw => ⟨h.loc w w' (fun i hi hp => hww i hi (by simp [hp])) hw.1, k.loc w w' (fun i hi hp => hww i hi (by simp [hp])) hw.2⟩⟩
  · have a1 := h.up w hw.1
    have a2 := k.up w hw.2
    rw [e1, e2]
    simp only [addM]
    omega
  · simp only [addM] at h1 h2
    obtain ⟨t1, t2, q0, q1, q2, q3, q4, q5⟩ : ∃ t1 t2 : Int, t1 + t2 = t ∧ m.alo ≤ t1 ∧ t1 ≤ m.ahi ∧ y.alo ≤ t2 ∧ t2 ≤ y.ahi ∧ min m.shi (m.slo + t1 - m.alo) + min y.shi (y.slo + t2 - y.alo) = min (m.shi + y.shi) (m.slo + y.slo + t - (m.alo + y.alo)) := by
      by_cases hx : t - m.alo - y.alo ≤ (m.shi - m.slo) + (y.shi - y.slo)
      · exact ⟨m.alo + min (t - m.alo - y.alo) (m.shi - m.slo), t - (m.alo + min (t - m.alo - y.alo) (m.shi - m.slo)), by omega, by omega, by omega, by omega, by omega, by omega⟩
      · exact ⟨m.alo + ((m.shi - m.slo) + min (t - m.alo - y.alo - (m.shi - m.slo) - (y.shi - y.slo)) ((m.ahi - m.alo) - (m.shi - m.slo))), t - (m.alo + ((m.shi - m.slo) + min (t - m.alo - y.alo - (m.shi - m.slo) - (y.shi - y.slo)) ((m.ahi - m.alo) - (m.shi - m.slo)))), by omega, by omega, by omega, by omega, by omega, by omega⟩
    obtain ⟨w1, a1, a2, a3⟩ := h.is t1 q1 q2
    obtain ⟨w2, b1, b2, b3⟩ := k.is t2 q3 q4
    have f1 : ∀ i, i < 8 → P i = true → w1 i = (if P i then w1 i else w2 i) := fun i _ hp => by simp [hp]
    have f2 : ∀ i, i < 8 → Q i = true → w2 i = (if P i then w1 i else w2 i) := fun i hi hq => by
      have := hd i hi
      cases hp : P i with
      | true => exact absurd ⟨hp, hq⟩ this
      | false => simp
    refine ⟨fun i => if P i then w1 i else w2 i, ⟨h.loc w1 _ f1 a1, k.loc w2 _ f2 b1⟩, ?_, ?_⟩
    · rw [e1, ← sumP_congr (w := w1) (fun _ _ => rfl) f1, ← sumP_congr (w := w2) (fun _ _ => rfl) f2, a2, b2]
      exact q0
    · rw [e2, ← sumP_congr (w := w1) (P := fun i => P i && S i) (fun _ _ => rfl) (fun i hi hp => f1 i hi (by simp only [Bool.and_eq_true] at hp; exact hp.1)), ← sumP_congr (w := w2) (P := fun i => Q i && S i) (fun _ _ => rfl) (fun i hi hp => f2 i hi (by simp only [Bool.and_eq_true] at hp; exact hp.1)), a3, b3]
      simp only [addM]
      exact q5
theorem Good.cap {S P : Nat → Bool} {F : (Nat → Int) → Prop} {m : Mass} {lo hi : Int} (h : Good S P F m) (hc : max m.alo lo ≤ min m.ahi hi) : Good S P (fun w => F w ∧ lo ≤ sumP w P ∧ sumP w P ≤ hi) (capM lo hi m).1 := by
  have ha := h.a
  have hs := h.s
  have hdd := h.d
  refine ⟨fun w hw => ?_, fun t h1 h2 => ?_, by simp only [capM]; omega, by simp only [capM]; omega, by simp only [capM]; omega, fun w w' hww hw => ⟨h.loc w w' hww hw.1, by rw [← sumP_congr (w := w) (fun _ _ => rfl) hww]; exact hw.2⟩⟩
  · have := h.up w hw.1
    have h2 := hw.2
    simp only [capM]
    omega
  · simp only [capM] at h1 h2
    obtain ⟨w, a1, a2, a3⟩ := h.is t (by omega) (by omega)
    refine ⟨w, ⟨a1, by omega, by omega⟩, a2, ?_⟩
    rw [a3]
    simp only [capM]
    omega

/-- .. and whether anything is allowed. -/
def Good2 (S P : Nat → Bool) (F : (Nat → Int) → Prop) (r : Mass × Bool) : Prop := (r.2 = true → Good S P F r.1) ∧ (r.2 = false → ∀ w, ¬ F w)
theorem Good2.congr {S P Q : Nat → Bool} {F G : (Nat → Int) → Prop} {r : Mass × Bool} (h : Good2 S P F r) (hP : ∀ i, i < 8 → P i = Q i) (hF : ∀ w, F w ↔ G w) : Good2 S Q G r :=
  ⟨fun hr => (h.1 hr).congr hP hF, fun hr w hw => h.2 hr w ((hF w).2 hw)⟩
theorem Good2.add {S P Q : Nat → Bool} {F G : (Nat → Int) → Prop} {r s : Mass × Bool} (h : Good2 S P F r) (k : Good2 S Q G s) (hd : ∀ i, i < 8 → ¬ (P i = true ∧ Q i = true)) : Good2 S (fun i => P i || Q i) (fun w => F w ∧ G w) (addM r.1 s.1, r.2 && s.2) := by
  refine ⟨fun hr => ?_, fun hr w hw => ?_⟩
  · simp only [Bool.and_eq_true] at hr
    exact (h.1 hr.1).add (k.1 hr.2) hd
  · simp only [Bool.and_eq_false_iff] at hr
    rcases hr with hr | hr
    · exact h.2 hr w hw.1
    · exact k.2 hr w hw.2
theorem Good2.cap {S P : Nat → Bool} {F : (Nat → Int) → Prop} {r : Mass × Bool} {lo hi : Int} (h : Good2 S P F r) : Good2 S P (fun w => F w ∧ lo ≤ sumP w P ∧ sumP w P ≤ hi) ((capM lo hi r.1).1, r.2 && (capM lo hi r.1).2) := by
  refine ⟨fun hr => ?_, fun hr w hw => ?_⟩
  · simp only [Bool.and_eq_true] at hr
    exact (h.1 hr.1).cap (by simpa [capM] using hr.2)
  · simp only [Bool.and_eq_false_iff] at hr
    rcases hr with hr | hr
    · exact h.2 hr w hw.1
    · cases hr2 : r.2 with
      | false => exact h.2 hr2 w hw.1
      | true =>
        have := (h.1 hr2).up w hw.1
        have h3 := hw.2
        simp only [capM, decide_eq_false_iff_not] at hr
        omega
end Go.Proofs.Ytojgdallodmanaa

namespace Go.Proofs.Ytojgdallodmanaa

inductive Desc (N : List Nd) : Nat → Nat → Prop
  | refl (i : Nat) : Desc N i i
  | down {i k j : Nat} {nd : Nd} : N[i]? = some nd → k ∈ nd.kids → Desc N k j → Desc N i j
def OwnOk (ps : List Prt) (own : Nat) (w : Nat → Int) (k : Nat) : Prop := ∀ (i : Nat) (p : Prt), i < k → ps[i]? = some p → own.testBit i = true → p.lo ≤ w i ∧ w i ≤ p.hi
def NodeOk (ps : List Prt) (w : Nat → Int) (nd : Nd) : Prop := OwnOk ps nd.own w ps.length ∧ nd.lo ≤ sumS w nd.set ∧ sumS w nd.set ≤ nd.hi
def FeasT (N : List Nd) (ps : List Prt) (i : Nat) (w : Nat → Int) : Prop := ∀ (j : Nat) (nd : Nd), Desc N i j → N[j]? = some nd → NodeOk ps w nd
theorem feasT_iff {N : List Nd} {ps : List Prt} {i : Nat} {w : Nat → Int} {nd : Nd} (h : N[i]? = some nd) : FeasT N ps i w ↔ (OwnOk ps nd.own w ps.length ∧ ∀ k ∈ nd.kids, FeasT N ps k w) ∧ nd.lo ≤ sumS w nd.set ∧ sumS w nd.set ≤ nd.hi := by
  constructor
  · intro hf
    obtain ⟨h1, h2⟩ := hf i nd (.refl i) h
    exact ⟨⟨h1, fun k hk j nd' hd hj => hf j nd' (.down h hk hd) hj⟩, h2⟩
  · rintro ⟨⟨h1, h2⟩, h3⟩ j nd' hd hj
    cases hd with
    | refl =>
      rw [h] at hj
      injection hj with hj
      subst hj
      exact ⟨h1, h3⟩
    | down he hk hd =>
      rw [h] at he
      injection he with he
      subst he
      exact h2 _ hk j nd' hd hj

/-- A tree of nodes: the parts of a node are its own and those of the nodes in it, each in just one. -/
structure Lam (n : Nat) (N : List Nd) : Prop where
  part : ∀ (i : Nat) (nd : Nd), N[i]? = some nd → ∀ p, p < 8 → (nd.set.testBit p = true ↔ (nd.own.testBit p = true ∨ ∃ k ∈ nd.kids, (setAt N k).testBit p = true))
  ownk : ∀ (i : Nat) (nd : Nd), N[i]? = some nd → ∀ p, p < 8 → nd.own.testBit p = true → ∀ k ∈ nd.kids, ¬ (setAt N k).testBit p = true
  kk : ∀ (i : Nat) (nd : Nd), N[i]? = some nd → nd.kids.Pairwise (fun k k' => ∀ p, p < 8 → ¬ ((setAt N k).testBit p = true ∧ (setAt N k').testBit p = true))
  kid : ∀ (i : Nat) (nd : Nd), N[i]? = some nd → ∀ k ∈ nd.kids, k < i
  own : ∀ (i : Nat) (nd : Nd), N[i]? = some nd → nd.own < 2 ^ n

theorem ownTo_good {ps : List Prt} (hp : PsOk ps) (h8 : ps.length ≤ 8) (own set : Nat) : ∀ k, k ≤ ps.length → Good (fun i => set.testBit i) (fun i => own.testBit i && decide (i < k)) (fun w => OwnOk ps own w k) (ownTo ps own set k) := by
  intro k
  induction k with
  | zero =>
    intro _
    exact (Good.none _).congr (fun i _ => by simp) (fun w => ⟨fun _ i p hi => by omega, fun _ => trivial⟩)
  | succ k ih =>
    intro hk
    have hx := List.getElem?_eq_getElem (show k < ps.length by omega)
    obtain ⟨p, hpk⟩ : ∃ p, ps[k]? = some p := ⟨_, hx⟩
    have hpo := hp p (List.mem_of_getElem? hpk)
    have e : ownTo ps own set (k + 1) = partM own set k p (ownTo ps own set k) := by rw [ownTo, hpk]
    rw [e]
    cases ho : own.testBit k with
    | true =>
      have e2 : partM own set k p (ownTo ps own set k) = addM (ownTo ps own set k) (if set.testBit k then ⟨p.lo, p.hi, p.lo, p.hi⟩ else ⟨p.lo, p.hi, 0, 0⟩) := by
        unfold partM hasP addM
        rw [ho]
        cases set.testBit k <;> simp
      rw [e2]
      refine ((ih (by omega)).add (Good.part (fun i => set.testBit i) (show k < 8 by omega) hpo.2.1) (fun i _ hc => by simp at hc; omega)).congr (fun i _ => ?_) (fun w => ?_)
      · by_cases hik : i = k
        · subst hik; simp [ho]
        · have : decide (i < k + 1) = decide (i < k) := by simp; omega
          rw [this]; simp [hik]
      · constructor
        · rintro ⟨h1, h2⟩ i q hi hq hb
          by_cases hik : i = k
          · subst hik
            rw [hpk] at hq
            injection hq with hq
            subst hq
            exact h2
          · exact h1 i q (by omega) hq hb
        · intro h
          exact ⟨fun i q hi hq hb => h i q (by omega) hq hb, h k p (by omega) hpk ho⟩
    | false =>
      have e2 : partM own set k p (ownTo ps own set k) = ownTo ps own set k := by
        unfold partM hasP
        rw [ho]
        rfl
      rw [e2]
      refine (ih (by omega)).congr (fun i _ => ?_) (fun w => ?_)
      · by_cases hik : i = k
        · subst hik; simp [ho]
        · have : decide (i < k + 1) = decide (i < k) := by simp; omega
          rw [this]
      · constructor
        · intro h1 i q hi hq hb
          by_cases hik : i = k
          · subst hik
            rw [ho] at hb; cases hb
          · exact h1 i q (by omega) hq hb
        · intro h i q hi hq hb
          exact h i q (by omega) hq hb

theorem upF_good {ps : List Prt} {N : List Nd} (hp : PsOk ps) (h8 : ps.length ≤ 8) (hL : Lam ps.length N) (set : Nat) : ∀ (f i : Nat) (nd : Nd), i < f → N[i]? = some nd → Good2 (fun p => set.testBit p) (fun p => nd.set.testBit p) (FeasT N ps i) (upF N ps set f i) := by
  intro f
  induction f with
  | zero => intro i nd hi; omega
  | succ f ih =>
    intro i nd hi hn
    have hown := hL.own i nd hn
    have h0 : Good2 (fun p => set.testBit p) (fun p => nd.own.testBit p) (fun w => OwnOk ps nd.own w ps.length) (ownTo ps nd.own set ps.length, true) :=
      ⟨fun _ => (ownTo_good hp h8 nd.own set ps.length (Nat.le_refl _)).congr (fun p _ => by
        by_cases hpl : p < ps.length
        · simp [hpl]
        · have : nd.own.testBit p = false := Nat.testBit_lt_two_pow (Nat.lt_of_lt_of_le hown (Nat.pow_le_pow_right (by decide) (by omega)))
          simp [this]) (fun _ => Iff.rfl), fun h => by cases h⟩
    have hkids : ∀ k, k ≤ nd.kids.length → Good2 (fun p => set.testBit p) (fun p => nd.own.testBit p || (nd.kids.take k).any fun j => (setAt N j).testBit p) (fun w => OwnOk ps nd.own w ps.length ∧ ∀ j ∈ nd.kids.take k, FeasT N ps j w) (kidsTo N ps set f nd k) := by
      intro k
      induction k with
      | zero =>
        intro _
        rw [kidsTo_zero]
        exact h0.congr (fun p _ => by simp) (fun w => ⟨fun h => ⟨h, by simp⟩, fun h => h.1⟩)
      | succ k ihk =>
        intro hk
        have hj : nd.kids[k]? = some nd.kids[k] := List.getElem?_eq_getElem (by omega)
        obtain ⟨j, hjd⟩ : ∃ j, nd.kids[k] = j := ⟨_, rfl⟩
        rw [hjd] at hj
        rw [kidsTo_succ hj]
        have hjm := List.mem_of_getElem? hj
        have hji := hL.kid i nd hn j hjm
        have hil := (List.getElem?_eq_some_iff.1 hn).1
        have hjn := List.getElem?_eq_getElem (show j < N.length by omega)
        have hg := ih j _ (by omega) hjn
        have hst : setAt N j = (N[j]'(by omega)).set := setAt_some hjn
        have htk : nd.kids.take (k + 1) = nd.kids.take k ++ [j] := by
          rw [List.take_succ_eq_append_getElem (by omega), hjd]
        refine ((ihk (by omega)).add hg (fun p hp8 hc => ?_)).congr (fun p _ => ?_) (fun w => ?_)
        · simp only [Bool.or_eq_true, List.any_eq_true] at hc
          rcases hc with ⟨hc | ⟨j', hj', hc⟩, hc2⟩
          · exact hL.ownk i nd hn p hp8 hc j hjm (by rw [hst]; exact hc2)
          · have hpw := hL.kk i nd hn
            obtain ⟨q, hq⟩ := List.getElem?_of_mem hj'
            have hql : q < k := by
              have := (List.getElem?_eq_some_iff.1 hq).1
              rw [List.length_take] at this
              omega
            rw [List.getElem?_take_of_lt hql] at hq
            obtain ⟨hq1, hq2⟩ := List.getElem?_eq_some_iff.1 hq
            have := (List.pairwise_iff_getElem.1 hpw) q k hq1 (by omega) hql p hp8
            rw [hq2, hjd, hst] at this
            exact this ⟨hc, hc2⟩
        · rw [htk, List.any_append]
          simp [hst, Bool.or_assoc]
        · rw [htk]
          constructor
          · rintro ⟨⟨h1, h2⟩, h3⟩
            refine ⟨h1, fun j' hj' => ?_⟩
            rcases List.mem_append.1 hj' with h | h
            · exact h2 j' h
            · rw [List.mem_singleton.1 h]; exact h3
          · rintro ⟨h1, h2⟩
            exact ⟨⟨h1, fun j' hj' => h2 j' (List.mem_append_left _ hj')⟩, h2 j (by simp)⟩
    rw [upF_at hn]
    refine ((hkids nd.kids.length (Nat.le_refl _)).cap (lo := nd.lo) (hi := nd.hi)).congr (fun p hp8 => ?_) (fun w => ?_)
    · rw [List.take_length, Bool.eq_iff_iff]
      have := hL.part i nd hn p hp8
      rw [this]
      simp [List.any_eq_true]
    · rw [feasT_iff hn, List.take_length]
      have e : sumP w (fun p => nd.own.testBit p || nd.kids.any fun j => (setAt N j).testBit p) = sumS w nd.set := by
        refine sumP_congr (fun p hp8 => ?_) (fun _ _ _ => rfl)
        rw [Bool.eq_iff_iff, hL.part i nd hn p hp8]
        simp [List.any_eq_true]
      rw [e]
end Go.Proofs.Ytojgdallodmanaa

namespace Go.Proofs.Ytojgdallodmanaa

def subP (a b : Nat) : Prop := ∀ p, p < 8 → a.testBit p = true → b.testBit p = true
theorem testBit_not {a p : Nat} (ha : a < 256) (hp : p < 8) : (255 - a).testBit p = !a.testBit p := by
  have := Nat.testBit_two_pow_sub_succ (x := a) (n := 8) (by omega) p
  rw [show 2 ^ 8 - (a + 1) = 255 - a from by omega] at this
  rw [this]
  simp [hp]
theorem bit_high {a p : Nat} (ha : a < 256) (hp : 8 ≤ p) : a.testBit p = false := Nat.testBit_lt_two_pow (Nat.lt_of_lt_of_le ha (Nat.pow_le_pow_right (n := 2) (by decide) hp))
theorem subN_iff {a b : Nat} (ha : a < 256) (hb : b < 256) : subN a b = true ↔ subP a b := by
  unfold subN
  rw [beq_iff_eq]
  constructor
  · intro h p hp h1
    have := congrArg (fun x => x.testBit p) h
    simp only [Nat.testBit_and, Nat.zero_testBit, h1, Bool.true_and] at this
    rw [testBit_not hb hp] at this
    simpa using this
  · intro h
    apply Nat.eq_of_testBit_eq
    intro p
    rw [Nat.testBit_and, Nat.zero_testBit]
    rcases Nat.lt_or_ge p 8 with hp | hp
    · cases h1 : a.testBit p with
      | false => rfl
      | true => rw [testBit_not hb hp, h p hp h1]; rfl
    · rw [bit_high ha hp]; rfl
theorem ones_sub {a b : Nat} (h : subP a b) : (List.range 8).filter (fun i => a.testBit i) = ((List.range 8).filter (fun i => b.testBit i)).filter (fun i => a.testBit i) := by
  rw [List.filter_filter]
  apply List.filter_congr
  intro i hi
  cases h1 : a.testBit i with
  | false => rfl
  | true => rw [h i (by simpa using hi) h1]; rfl
theorem ones_le {a b : Nat} (h : subP a b) : onesN a ≤ onesN b := by
  unfold onesN
  rw [ones_sub h]
  exact List.length_filter_le _ _
theorem ones_eq {a b : Nat} (h : subP a b) (he : onesN b ≤ onesN a) : subP b a := by
  intro p hp hb
  have h1 : (((List.range 8).filter (fun i => b.testBit i)).filter (fun i => a.testBit i)).length = ((List.range 8).filter (fun i => b.testBit i)).length := by
    have := ones_le h
    unfold onesN at this he
    rw [ones_sub h] at this he
    omega
  rw [List.length_filter_eq_length_iff] at h1
  exact h1 p (List.mem_filter.2 ⟨by simpa using hp, hb⟩)

/-! What is first behind a node does not change while the tree is built. -/
theorem setAt_tree {N0 : List Nd} (h0 : ∀ nd ∈ N0, nd.kids = []) (k i : Nat) : setAt (treeTo N0 k) i = setAt N0 i := by
  have hs := shaped_tree h0 k
  cases h : (treeTo N0 k)[i]? with
  | none =>
    have : N0[i]? = none := by
      rw [List.getElem?_eq_none_iff] at h ⊢
      rw [hs.len] at h
      exact h
    unfold setAt
    rw [h, this]
  | some nd =>
    obtain ⟨nd0, e1, _, _, e4, _⟩ := hs.same i nd h
    rw [setAt_some h, setAt_some e1, e4]
theorem findUp_tree {N0 : List Nd} (h0 : ∀ nd ∈ N0, nd.kids = []) (k i : Nat) : findUp (treeTo N0 k) i = findUp N0 i := by
  unfold findUp
  rw [treeTo_len]
  congr 1
  funext m
  rw [setAt_tree h0, setAt_tree h0]

/-- What a node is, behind k rounds. -/
theorem tree_nodes {N0 : List Nd} (h0 : ∀ nd ∈ N0, nd.kids = [] ∧ nd.own = nd.set ∧ nd.set < 256) : ∀ k, k ≤ N0.length → ∀ (j : Nat) (nd : Nd), (treeTo N0 k)[j]? = some nd →
    nd.kids = (List.range k).filter (fun i => findUp N0 i == some j) ∧ nd.own < 256 ∧ ∀ p, p < 8 → (nd.own.testBit p = true ↔ nd.set.testBit p = true ∧ ∀ i ∈ nd.kids, ¬ (setAt N0 i).testBit p = true) := by
  have h0' : ∀ nd ∈ N0, nd.kids = [] := fun nd h => (h0 nd h).1
  intro k
  induction k with
  | zero =>
    intro _ j nd h
    obtain ⟨h1, h2, h3⟩ := h0 nd (List.mem_of_getElem? h)
    exact ⟨by rw [h1]; rfl, by omega, fun p _ => by rw [h1, h2]; simp⟩
  | succ k ih =>
    intro hk j nd h
    have hfl : (List.range (k + 1)).filter (fun i => findUp N0 i == some j) = (List.range k).filter (fun i => findUp N0 i == some j) ++ (if findUp N0 k == some j then [k] else []) := by
      rw [List.range_succ, List.filter_append]
      congr 1
      cases hb : (findUp N0 k == some j) <;> simp [hb]
    rw [hfl]
    cases hu : findUp (treeTo N0 k) k with
    | none =>
      rw [tree_no hu] at h
      rw [findUp_tree h0'] at hu
      rw [hu]
      obtain ⟨a1, a2, a3⟩ := ih (by omega) j nd h
      exact ⟨by simpa using a1, a2, a3⟩
    | some m =>
      rw [tree_go hu] at h
      rw [findUp_tree h0'] at hu
      rw [hu]
      obtain ⟨nd0, e1, _, _, e4, e5⟩ := giveTo_get _ _ _ _ _ h
      obtain ⟨a1, a2, a3⟩ := ih (by omega) j nd0 e1
      rcases e5 with ⟨hj, rfl⟩ | ⟨rfl, e6, e7⟩
      · have hne : (some m == some j) = false := by simpa using fun e => hj e.symm
        rw [hne]
        exact ⟨by simpa using a1, a2, a3⟩
      · rw [setAt_tree h0'] at e6
        have hks : setAt N0 k < 256 := by
          have hl := List.getElem?_eq_getElem (show k < N0.length by omega)
          rw [setAt_some hl]
          exact (h0 _ (List.mem_of_getElem? hl)).2.2
        refine ⟨by rw [e7, a1]; simp, by rw [e6]; exact Nat.lt_of_le_of_lt Nat.and_le_left a2, fun p hp => ?_⟩
        rw [e6, Nat.testBit_and, testBit_not hks hp, e7, e4]
        have := a3 p hp
        constructor
        · intro hb
          rw [Bool.and_eq_true] at hb
          obtain ⟨c1, c2⟩ := this.1 hb.1
          refine ⟨c1, fun i hi => ?_⟩
          rcases List.mem_append.1 hi with hi | hi
          · exact c2 i hi
          · rw [List.mem_singleton.1 hi]
            simpa using hb.2
        · rintro ⟨c1, c2⟩
          rw [Bool.and_eq_true]
          refine ⟨this.2 ⟨c1, fun i hi => c2 i (List.mem_append_left _ hi)⟩, ?_⟩
          simpa using c2 k (by simp)

/-- Sets of which no two cross, the smaller ones first, the last one of all parts. -/
structure Sets (n : Nat) (N0 : List Nd) : Prop where
  n8 : n ≤ 8
  m1 : 0 < N0.length
  z : ∀ nd ∈ N0, nd.kids = [] ∧ nd.own = nd.set ∧ nd.set < 2 ^ n
  lam : ∀ i j, i < j → j < N0.length → (∀ p, p < 8 → ¬ ((setAt N0 i).testBit p = true ∧ (setAt N0 j).testBit p = true)) ∨ subP (setAt N0 i) (setAt N0 j) ∨ subP (setAt N0 j) (setAt N0 i)
  ord : ∀ i j, i < j → j < N0.length → onesN (setAt N0 i) ≤ onesN (setAt N0 j)
  last : setAt N0 (N0.length - 1) = 2 ^ n - 1

section
variable {n : Nat} {N0 : List Nd}
theorem Sets.p256 (h : Sets n N0) : 2 ^ n ≤ 256 := by
  have := Nat.pow_le_pow_right (show 0 < 2 by decide) h.n8
  omega
theorem Sets.lt (h : Sets n N0) {i : Nat} (hi : i < N0.length) : setAt N0 i < 2 ^ n := by
  have hl := List.getElem?_eq_getElem hi
  rw [setAt_some hl]
  exact (h.z _ (List.mem_of_getElem? hl)).2.2
theorem Sets.z' (h : Sets n N0) : ∀ nd ∈ N0, nd.kids = [] ∧ nd.own = nd.set ∧ nd.set < 256 := fun nd hnd => by
  obtain ⟨a, b, c⟩ := h.z nd hnd
  have := h.p256
  exact ⟨a, b, by omega⟩
theorem Sets.z0 (h : Sets n N0) : ∀ nd ∈ N0, nd.kids = [] := fun nd hnd => (h.z nd hnd).1
theorem Sets.sub_last (h : Sets n N0) {i : Nat} (hi : i < N0.length) : subP (setAt N0 i) (setAt N0 (N0.length - 1)) := by
  intro p hp hb
  rw [h.last, Nat.testBit_two_pow_sub_one]
  have := h.lt hi
  rcases Nat.lt_or_ge p n with h1 | h1
  · simpa using h1
  · rw [Nat.testBit_lt_two_pow (Nat.lt_of_lt_of_le this (Nat.pow_le_pow_right (by decide) h1))] at hb
    cases hb
theorem Sets.up (h : Sets n N0) {i : Nat} (hi : i < N0.length - 1) : ∃ q, findUp N0 i = some q := by
  cases hu : findUp N0 i with
  | some q => exact ⟨q, rfl⟩
  | none =>
    unfold findUp at hu
    rw [List.find?_range_eq_none] at hu
    have := hu (N0.length - 1) (by omega)
    have h2 := (subN_iff (Nat.lt_of_lt_of_le (h.lt (show i < N0.length by omega)) h.p256) (Nat.lt_of_lt_of_le (h.lt (show N0.length - 1 < N0.length by omega)) h.p256)).2 (h.sub_last (show i < N0.length by omega))
    simp [h2] at this
    omega
theorem findUp_first {N : List Nd} {i m : Nat} (h : findUp N i = some m) : ∀ k, i < k → k < m → subN (setAt N i) (setAt N k) = false := by
  intro k h1 h2
  unfold findUp at h
  rw [List.find?_range_eq_some] at h
  have := h.2.2 k h2
  simpa [h1] using this
theorem Sets.lamTree (h : Sets n N0) : Lam n (treeTo N0 N0.length) := by
  have hz := h.z'
  have h0 := h.z0
  have hs := shaped_tree h0 N0.length
  have hp := h.p256
  have hkm : ∀ (i : Nat) (nd : Nd), (treeTo N0 N0.length)[i]? = some nd → ∀ k ∈ nd.kids, k < N0.length ∧ findUp N0 k = some i := fun i nd hi k hk => by
    obtain ⟨a1, _, _⟩ := tree_nodes hz N0.length (Nat.le_refl _) i nd hi
    rw [a1, List.mem_filter] at hk
    exact ⟨by simpa using hk.1, by simpa using hk.2⟩
  have hset : ∀ (i : Nat) (nd : Nd), (treeTo N0 N0.length)[i]? = some nd → nd.set = setAt N0 i := fun i nd hi => by rw [← setAt_tree h0 N0.length i, setAt_some hi]
  refine ⟨fun i nd hi p hp8 => ?_, fun i nd hi p hp8 hb k hk => ?_, fun i nd hi => ?_, hs.kid, fun i nd hi => ?_⟩
  · obtain ⟨_, _, a3⟩ := tree_nodes hz N0.length (Nat.le_refl _) i nd hi
    rw [a3 p hp8]
    constructor
    · intro hb
      by_cases hx : ∃ k ∈ nd.kids, (setAt N0 k).testBit p = true
      · obtain ⟨k, hk, hb2⟩ := hx
        exact .inr ⟨k, hk, by rw [setAt_tree h0]; exact hb2⟩
      · exact .inl ⟨hb, fun k hk hb2 => hx ⟨k, hk, hb2⟩⟩
    · rintro (⟨hb, _⟩ | ⟨k, hk, hb⟩)
      · exact hb
      · rw [setAt_tree h0] at hb
        obtain ⟨hkl, hku⟩ := hkm i nd hi k hk
        obtain ⟨_, hil, hsub⟩ := findUp_some hku
        rw [hset i nd hi]
        exact (subN_iff (Nat.lt_of_lt_of_le (h.lt hkl) hp) (Nat.lt_of_lt_of_le (h.lt hil) hp)).1 hsub p hp8 hb
  · obtain ⟨_, _, a3⟩ := tree_nodes hz N0.length (Nat.le_refl _) i nd hi
    rw [setAt_tree h0]
    exact ((a3 p hp8).1 hb).2 k hk
  · obtain ⟨a1, _, _⟩ := tree_nodes hz N0.length (Nat.le_refl _) i nd hi
    have hlt : nd.kids.Pairwise (· < ·) := by rw [a1]; exact (List.pairwise_lt_range).filter _
    refine hlt.imp_of_mem fun {k k'} hk hk' hkk p hp8 hc => ?_
    obtain ⟨hkl, hku⟩ := hkm i nd hi k hk
    obtain ⟨hkl', hku'⟩ := hkm i nd hi k' hk'
    rw [setAt_tree h0, setAt_tree h0] at hc
    obtain ⟨hki', _, _⟩ := findUp_some hku'
    have hno := findUp_first hku k' hkk hki'
    have hsub : subP (setAt N0 k) (setAt N0 k') := by
      rcases h.lam k k' hkk hkl' with hd | hd | hd
      · exact absurd hc (hd p hp8)
      · exact hd
      · exact ones_eq hd (h.ord k k' hkk hkl')
    rw [(subN_iff (Nat.lt_of_lt_of_le (h.lt hkl) hp) (Nat.lt_of_lt_of_le (h.lt hkl') hp)).2 hsub] at hno
    cases hno
  · obtain ⟨nd0, e1, _, _, _, e5⟩ := hs.same i nd hi
    obtain ⟨_, b, c⟩ := h.z nd0 (List.mem_of_getElem? e1)
    omega
/-- All nodes are in the last one. -/
theorem Desc.snoc {N : List Nd} {i j k : Nat} {nd : Nd} (h : Desc N i j) (hn : N[j]? = some nd) (hk : k ∈ nd.kids) : Desc N i k := by
  induction h with
  | refl i => exact .down hn hk (.refl k)
  | down h1 h2 _ ih => exact .down h1 h2 (ih hn)
theorem Sets.desc (h : Sets n N0) : ∀ d j, j + d = N0.length - 1 → Desc (treeTo N0 N0.length) (N0.length - 1) j := by
  intro d
  induction d using Nat.strongRecOn with
  | _ d ih =>
    intro j hj
    rcases Nat.eq_zero_or_pos d with rfl | hd
    · obtain rfl : j = N0.length - 1 := by omega
      exact .refl _
    · obtain ⟨q, hq⟩ := h.up (i := j) (by omega)
      obtain ⟨h1, h2, _⟩ := findUp_some hq
      have hd2 := ih (N0.length - 1 - q) (by omega) q (by omega)
      have hn := List.getElem?_eq_getElem (show q < (treeTo N0 N0.length).length by rw [treeTo_len]; exact h2)
      obtain ⟨a1, _, _⟩ := tree_nodes h.z' N0.length (Nat.le_refl _) q _ hn
      exact hd2.snoc hn (by rw [a1, List.mem_filter]; exact ⟨by simp; omega, by simp [hq]⟩)
/-- Each part of a node is an own one of a node in it. -/
theorem Lam.owner {N : List Nd} (hL : Lam n N) {p : Nat} (hp : p < 8) : ∀ (i : Nat) (nd : Nd), N[i]? = some nd → nd.set.testBit p = true → ∃ (j : Nat) (nj : Nd), Desc N i j ∧ N[j]? = some nj ∧ nj.own.testBit p = true := by
  intro i
  induction i using Nat.strongRecOn with
  | _ i ih =>
    intro nd hn hb
    rcases (hL.part i nd hn p hp).1 hb with h | ⟨k, hk, h⟩
    · exact ⟨i, nd, .refl i, hn, h⟩
    · have hki := hL.kid i nd hn k hk
      have hil := (List.getElem?_eq_some_iff.1 hn).1
      have hkn := List.getElem?_eq_getElem (show k < N.length by omega)
      rw [setAt_some hkn] at h
      obtain ⟨j, nj, a, b, c⟩ := ih k hki _ hkn h
      exact ⟨j, nj, .down hn hk a, b, c⟩
end
end Go.Proofs.Ytojgdallodmanaa

namespace Go.Proofs.Ytojgdallodmanaa

/-- Weights of a truth that agrees with all weighings. -/
def TruthP (h : Hul) (l : List Wgh) (w : Nat → Int) : Prop := (∀ (i : Nat) (p : Prt), h.ps[i]? = some p → p.lo ≤ w i ∧ w i ≤ p.hi) ∧ ∀ x ∈ l, x.lo ≤ sumS w x.set.toNat ∧ sumS w x.set.toNat ≤ x.hi

/-- No two of them cross. -/
def LamW (x y : Wgh) : Prop := (∀ p, p < 8 → ¬ (x.set.toNat.testBit p = true ∧ y.set.toNat.testBit p = true)) ∨ subP x.set.toNat y.set.toNat ∨ subP y.set.toNat x.set.toNat
theorem LamW.symm {x y : Wgh} (h : LamW x y) : LamW y x := by
  rcases h with h | h | h
  · exact .inl fun p hp hc => h p hp ⟨hc.2, hc.1⟩
  · exact .inr (.inr h)
  · exact .inr (.inl h)
theorem crossN_no {a b : Nat} (h : crossN a b = false) : (∀ p, p < 8 → ¬ (a.testBit p = true ∧ b.testBit p = true)) ∨ subP a b ∨ subP b a := by
  unfold crossN at h
  simp only [Bool.and_eq_false_iff, bne_eq_false_iff_eq] at h
  rcases h with (h | h) | h
  · refine .inl fun p _ hc => ?_
    have := congrArg (fun x => x.testBit p) h
    simp [hc.1, hc.2] at this
  · refine .inr (.inl fun p _ hb => ?_)
    have := congrArg (fun x => x.testBit p) h
    simp only [Nat.testBit_and, hb, Bool.true_and] at this
    exact this
  · refine .inr (.inr fun p _ hb => ?_)
    have := congrArg (fun x => x.testBit p) h
    simp only [Nat.testBit_and, hb, Bool.and_true] at this
    exact this

section
variable {h : Hul} {l : List Wgh}
theorem lam_list (hp : openPre h l = 0) : l.Pairwise LamW := by
  obtain ⟨_, _, h3⟩ := openPre_zero hp
  rw [List.pairwise_iff_getElem]
  intro i j hi hj hij
  have hz := h3 j hj
  unfold weighedE at hz
  rw [List.getElem?_eq_getElem hj] at hz
  simp only at hz
  split at hz
  · split at hz
    · omega
    · rename_i hc
      have hc : crossB (l.take j) l[j].set.toNat = false := by simpa using hc
      unfold crossB at hc
      rw [List.any_eq_false] at hc
      have hm : l[i] ∈ l.take j := by
        rw [List.mem_take_iff_getElem]
        exact ⟨i, by omega, rfl⟩
      have := hc _ hm
      exact LamW.symm (crossN_no (by simpa using this))
  · exact absurd hz (by assumption)
theorem all_set (n : Nat) : ((2 ^ n - 1 : Nat) : Int).toNat = 2 ^ n - 1 := by omega
theorem sets_all (hp : openPre h l = 0) : ∀ x ∈ allW l h.ps.length, x.set.toNat < 2 ^ h.ps.length ∧ (x.set.toNat : Int) = x.set := by
  intro x hx
  rcases List.mem_append.1 hx with hx | hx
  · obtain ⟨s, _, _, a3, a4, _⟩ := wghs_ok hp x hx
    rw [a4]
    exact ⟨by omega, by omega⟩
  · rw [List.mem_singleton.1 hx]
    have : 1 ≤ 2 ^ h.ps.length := Nat.one_le_two_pow
    simp only
    omega
theorem lam_all (hp : openPre h l = 0) : (allW l h.ps.length).Pairwise LamW := by
  unfold allW
  rw [List.pairwise_append]
  refine ⟨lam_list hp, by simp, fun x hx y hy => ?_⟩
  rw [List.mem_singleton.1 hy]
  refine .inr (.inl fun p _ hb => ?_)
  simp only [all_set, Nat.testBit_two_pow_sub_one]
  have := (sets_all hp x (List.mem_append_left _ hx)).1
  rcases Nat.lt_or_ge p h.ps.length with h1 | h1
  · simpa using h1
  · rw [Nat.testBit_lt_two_pow (Nat.lt_of_lt_of_le this (Nat.pow_le_pow_right (by decide) h1))] at hb
    cases hb
theorem sets_of (hp : openPre h l = 0) {X : List Wgh} (hX : (allW l h.ps.length).Perm X) (hs : X.Pairwise (fun a b => onesN a.set.toNat ≤ onesN b.set.toNat)) : Sets h.ps.length (X.map ndOf) := by
  have hk := hulOk (openPre_zero hp).1
  have hl : (X.map ndOf).length = l.length + 1 := by rw [List.length_map, ← hX.length_eq, allW_len]
  have hXl : X.length = l.length + 1 := by rw [← hX.length_eq, allW_len]
  have hat : ∀ i (hi : i < X.length), setAt (X.map ndOf) i = X[i].set.toNat := fun i hi => by
    have : (X.map ndOf)[i]? = some (ndOf X[i]) := by rw [List.getElem?_map, List.getElem?_eq_getElem hi]; rfl
    rw [setAt_some this]; rfl
  have hlam : X.Pairwise LamW := (hX.pairwise_iff (fun h => LamW.symm h)).1 (lam_all hp)
  have hlt : ∀ x ∈ X, x.set.toNat < 2 ^ h.ps.length := fun x hx => (sets_all hp x (hX.mem_iff.2 hx)).1
  refine ⟨hk.n8, by omega, fun nd hnd => ?_, fun i j hij hj => ?_, fun i j hij hj => ?_, ?_⟩
  · obtain ⟨x, hx, rfl⟩ := List.mem_map.1 hnd
    exact ⟨rfl, rfl, hlt x hx⟩
  · rw [List.length_map] at hj
    rw [hat i (by omega), hat j hj]
    exact List.pairwise_iff_getElem.1 hlam i j (by omega) hj hij
  · rw [List.length_map] at hj
    rw [hat i (by omega), hat j hj]
    exact List.pairwise_iff_getElem.1 hs i j (by omega) hj hij
  · rw [List.length_map, hat _ (by omega)]
    have hm : (⟨((2 ^ h.ps.length - 1 : Nat) : Int), 0, (h.ps.length : Int) * 100000⟩ : Wgh) ∈ X := hX.mem_iff.1 (by simp [allW])
    obtain ⟨j, hj⟩ := List.getElem?_of_mem hm
    obtain ⟨hjl, hje⟩ := List.getElem?_eq_some_iff.1 hj
    have hlast := hlt _ (List.getElem_mem (show X.length - 1 < X.length by omega))
    have hsub : subP X[X.length - 1].set.toNat (2 ^ h.ps.length - 1) := by
      intro p _ hb
      rw [Nat.testBit_two_pow_sub_one]
      rcases Nat.lt_or_ge p h.ps.length with h1 | h1
      · simpa using h1
      · rw [Nat.testBit_lt_two_pow (Nat.lt_of_lt_of_le hlast (Nat.pow_le_pow_right (by decide) h1))] at hb
        cases hb
    have hsub2 : subP (2 ^ h.ps.length - 1) X[X.length - 1].set.toNat := by
      rcases Nat.lt_or_ge j (X.length - 1) with hlt2 | hge
      · have := List.pairwise_iff_getElem.1 hs j (X.length - 1) hjl (by omega) hlt2
        rw [hje] at this
        simp only [all_set] at this
        exact ones_eq hsub this
      · obtain rfl : j = X.length - 1 := by omega
        rw [hje]
        simp only [all_set]
        exact fun _ _ h => h
    apply Nat.eq_of_testBit_eq
    intro p
    rcases Nat.lt_or_ge p 8 with hp8 | hp8
    · rw [Bool.eq_iff_iff]
      exact ⟨hsub p hp8, hsub2 p hp8⟩
    · rw [Nat.testBit_two_pow_sub_one, Nat.testBit_lt_two_pow (Nat.lt_of_lt_of_le hlast (Nat.pow_le_pow_right (by decide) (by have := hk.n8; omega)))]
      simp
      have := hk.n8
      omega

theorem sumTo_bd {w : Nat → Int} {P : Nat → Bool} {n : Nat} : ∀ k, (∀ i, i < k → P i = true → i < n ∧ 0 ≤ w i ∧ w i ≤ 100000) → 0 ≤ sumTo w P k ∧ sumTo w P k ≤ 100000 * (min k n : Nat) := by
  intro k
  induction k with
  | zero => intro _; simp [sumTo]
  | succ k ih =>
    intro hw
    have := ih (fun i hi => hw i (by omega))
    have h2 := hw k (by omega)
    simp only [sumTo]
    cases hk : P k with
    | true =>
      have := h2 hk
      simp only [if_true]
      omega
    | false =>
      simp only [Bool.false_eq_true, if_false]
      omega
theorem truth_bd (hk : HulOk h) {w : Nat → Int} (hw : TruthP h l w) {s : Nat} (hs : s < 2 ^ h.ps.length) : 0 ≤ sumS w s ∧ sumS w s ≤ 100000 * h.ps.length := by
  have := sumTo_bd (w := w) (P := fun i => s.testBit i) (n := h.ps.length) 8 (fun i _ hb => by
    have hil : i < h.ps.length := by
      rcases Nat.lt_or_ge i h.ps.length with h1 | h1
      · exact h1
      · rw [Nat.testBit_lt_two_pow (Nat.lt_of_lt_of_le hs (Nat.pow_le_pow_right (by decide) h1))] at hb
        cases hb
    have hg := List.getElem?_eq_getElem hil
    have a := hw.1 i _ hg
    have b := hk.ps _ (List.mem_of_getElem? hg)
    omega)
  unfold sumS sumP
  have := hk.n8
  omega

/-- What the tree says of a set, is what all truths say. -/
theorem wgh_truth (hp : openPre h l = 0) {N : List Nd} (hN : IsTree h l N) (set : Nat) : Good2 (fun p => set.testBit p) (fun p => decide (p < h.ps.length)) (TruthP h l) (wgh h.ps N set) := by
  have hk := hulOk (openPre_zero hp).1
  obtain ⟨X, hX, hs, rfl⟩ := hN
  have hS := sets_of hp hX hs
  have hl : (X.map ndOf).length = l.length + 1 := by rw [List.length_map, ← hX.length_eq, allW_len]
  rw [← hl]
  have hL := hS.lamTree
  have hlen : (treeTo (X.map ndOf) (X.map ndOf).length).length = (X.map ndOf).length := treeTo_len _ _
  have hrt := List.getElem?_eq_getElem (show (X.map ndOf).length - 1 < (treeTo (X.map ndOf) (X.map ndOf).length).length by rw [hlen]; omega)
  obtain ⟨rt, hrtd⟩ : ∃ rt, (treeTo (X.map ndOf) (X.map ndOf).length)[(X.map ndOf).length - 1]? = some rt := ⟨_, hrt⟩
  have hrs : rt.set = 2 ^ h.ps.length - 1 := by
    rw [← setAt_some hrtd, setAt_tree hS.z0, hS.last]
  have hg := upF_good hk.ps hk.n8 hL set (X.map ndOf).length ((X.map ndOf).length - 1) rt (by omega) hrtd
  unfold wgh
  rw [hlen]
  refine hg.congr (fun p _ => by rw [hrs, Nat.testBit_two_pow_sub_one]) (fun w => ?_)
  have hsame := (shaped_tree hS.z0 (X.map ndOf).length).same
  constructor
  · intro hf
    refine ⟨fun i p hi => ?_, fun x hx => ?_⟩
    · have hil := (List.getElem?_eq_some_iff.1 hi).1
      have hn8 := hk.n8
      obtain ⟨j, nj, a, b, c⟩ := hL.owner (p := i) (by omega) _ rt hrtd (by rw [hrs, Nat.testBit_two_pow_sub_one]; simpa using hil)
      exact (hf j nj a b).1 i p hil hi c
    · have hxX : x ∈ X := hX.mem_iff.1 (List.mem_append_left _ hx)
      obtain ⟨j, hj⟩ := List.getElem?_of_mem hxX
      have hjl := (List.getElem?_eq_some_iff.1 hj).1
      have hXl : X.length = (X.map ndOf).length := by simp
      have hnj := List.getElem?_eq_getElem (show j < (treeTo (X.map ndOf) (X.map ndOf).length).length by rw [hlen]; omega)
      obtain ⟨nj, hnjd⟩ : ∃ nj, (treeTo (X.map ndOf) (X.map ndOf).length)[j]? = some nj := ⟨_, hnj⟩
      obtain ⟨nd0, e1, e2, e3, e4, _⟩ := hsame j nj hnjd
      rw [List.getElem?_map, hj] at e1
      injection e1 with e1
      have hd := hS.desc ((X.map ndOf).length - 1 - j) j (by omega)
      have := (hf j nj hd hnjd).2
      rw [e2, e3, e4, ← e1] at this
      exact this
  · intro ht j nj _ hj
    obtain ⟨nd0, e1, e2, e3, e4, _⟩ := hsame j nj hj
    refine ⟨fun i p hi hip _ => ht.1 i p hip, ?_⟩
    rw [List.getElem?_map] at e1
    cases hx : X[j]? with
    | none => rw [hx] at e1; cases e1
    | some x =>
      rw [hx] at e1
      injection e1 with e1
      have hxa : x ∈ allW l h.ps.length := hX.mem_iff.2 (List.mem_of_getElem? hx)
      rw [e2, e3, e4, ← e1]
      rcases List.mem_append.1 hxa with hxl | hxl
      · exact ht.2 x hxl
      · rw [List.mem_singleton.1 hxl]
        have h1 : 1 ≤ 2 ^ h.ps.length := Nat.one_le_two_pow
        have := truth_bd hk ht (s := 2 ^ h.ps.length - 1) (by omega)
        simp only [ndOf, all_set]
        omega
end
end Go.Proofs.Ytojgdallodmanaa
