/- The sets of papers that can be forged, in the order in which they are gone through. No program is named here. The order in which the sets are gone through: the first is the least. No program is named here. -/
namespace Go.Proofs.Ytblbbhenmhkknaa

/-- All ascending lists of k numbers from 'from_' to n - 1, number by number in order. -/
def combs (n : Nat) : Nat → Nat → List (List Nat)
  | 0, _ => [[]]
  | k + 1, from_ => (List.range' from_ (n - from_)).flatMap fun i => (combs n k (i + 1)).map (i :: ·)
/-- Those whose first number is below i. -/
def combsTo (n k from_ i : Nat) : List (List Nat) := (List.range' from_ (i - from_)).flatMap fun j => (combs n k (j + 1)).map (j :: ·)
theorem combsTo_start (n k f : Nat) : combsTo n k f f = [] := by simp [combsTo]
theorem combsTo_end (n k f : Nat) : combsTo n k f n = combs n (k + 1) f := rfl
theorem combsTo_succ (n k f i : Nat) (h : f ≤ i) : combsTo n k f (i + 1) = combsTo n k f i ++ (combs n k (i + 1)).map (i :: ·) := by
  unfold combsTo
  have e : i + 1 - f = (i - f) + 1 := by omega
  rw [e, List.range'_concat, List.flatMap_append]
  have e2 : f + (i - f) = i := by omega
  simp [e2]
theorem combsTo_prefix (n k f : Nat) : ∀ (d i : Nat), f ≤ i → combsTo n k f i <+: combsTo n k f (i + d) := by
  intro d
  induction d with
  | zero => intro i _; exact List.prefix_refl _
  | succ d ih =>
    intro i h
    refine (ih i h).trans ?_
    rw [show i + (d + 1) = (i + d) + 1 from by omega, combsTo_succ _ _ _ _ (by omega)]
    exact List.prefix_append _ _

/-- The sets of at most so many papers: the smaller ones first. -/
def setsTo (n m : Nat) : List (List Nat) := (List.range m).flatMap fun k => combs n k 0
theorem setsTo_succ (n m : Nat) : setsTo n (m + 1) = setsTo n m ++ combs n m 0 := by
  unfold setsTo; rw [List.range_succ, List.flatMap_append]; simp
theorem setsTo_prefix (n : Nat) : ∀ (d m : Nat), setsTo n m <+: setsTo n (m + d) := by
  intro d
  induction d with
  | zero => intro m; exact List.prefix_refl _
  | succ d ih =>
    intro m
    refine (ih m).trans ?_
    rw [show m + (d + 1) = (m + d) + 1 from by omega, setsTo_succ]
    exact List.prefix_append _ _

theorem mem_combs (n : Nat) : ∀ (k f : Nat) (l : List Nat), l ∈ combs n k f ↔ l.length = k ∧ l.Pairwise (· < ·) ∧ ∀ x ∈ l, f ≤ x ∧ x < n := by
  intro k
  induction k with
  | zero =>
    intro f l
    simp only [combs, List.mem_singleton]
    constructor
    · rintro rfl; simp
    · rintro ⟨h, _⟩; exact List.length_eq_zero_iff.1 h
  | succ k ih =>
    intro f l
    simp only [combs, List.mem_flatMap, List.mem_range'_1, List.mem_map]
    constructor
    · rintro ⟨i, hi, m, hm, rfl⟩
      obtain ⟨h1, h2, h3⟩ := (ih (i + 1) m).1 hm
      refine ⟨by simp [h1], ?_, ?_⟩
      · rw [List.pairwise_cons]
        exact ⟨fun x hx => by have := h3 x hx; omega, h2⟩
      · intro x hx
        rcases List.mem_cons.1 hx with rfl | hx
        · omega
        · have := h3 x hx; omega
    · rintro ⟨h1, h2, h3⟩
      cases l with
      | nil => simp at h1
      | cons i m =>
        rw [List.pairwise_cons] at h2
        have hi := h3 i (by simp)
        refine ⟨i, by omega, m, (ih (i + 1) m).2 ⟨by simpa using h1, h2.2, fun x hx => ?_⟩, rfl⟩
        have a := h2.1 x hx
        have b := h3 x (by simp [hx])
        omega
theorem mem_setsTo (n m : Nat) (l : List Nat) : l ∈ setsTo n m ↔ l.length < m ∧ l.Pairwise (· < ·) ∧ ∀ x ∈ l, x < n := by
  simp only [setsTo, List.mem_flatMap, List.mem_range, mem_combs]
  constructor
  · rintro ⟨k, hk, h1, h2, h3⟩
    exact ⟨by omega, h2, fun x hx => (h3 x hx).2⟩
  · rintro ⟨h1, h2, h3⟩
    exact ⟨l.length, h1, rfl, h2, fun x hx => ⟨Nat.zero_le _, h3 x hx⟩⟩
end Go.Proofs.Ytblbbhenmhkknaa

namespace Go.Proofs.Ytblbbhenmhkknaa

def ltL : List Nat → List Nat → Bool
  | x :: a, y :: b => if x = y then ltL a b else decide (x < y)
  | _, _ => false
theorem ltL_irrefl : ∀ a, ltL a a = false
  | [] => rfl
  | x :: a => by unfold ltL; rw [if_pos rfl]; exact ltL_irrefl a
theorem ltL_asymm : ∀ {a b : List Nat}, ltL a b = true → ltL b a = false
  | [], [], h => by simp [ltL] at h
  | [], _ :: _, h => by simp [ltL] at h
  | _ :: _, [], h => by simp [ltL] at h
  | x :: a, y :: b, h => by
    unfold ltL at h ⊢
    by_cases e : x = y
    · rw [if_pos e] at h; rw [if_pos e.symm]; exact ltL_asymm h
    · rw [if_neg e] at h; rw [if_neg (fun h => e h.symm)]
      simp at h ⊢; omega
theorem ltL_trans : ∀ {a b c : List Nat}, ltL a b = true → ltL b c = true → ltL a c = true
  | [], b, _, h, _ => by cases b <;> simp [ltL] at h
  | _ :: _, [], _, h, _ => by simp [ltL] at h
  | _ :: _, _ :: _, [], _, h => by simp [ltL] at h
  | x :: a, y :: b, z :: c, h1, h2 => by
    unfold ltL at h1 h2 ⊢
    by_cases e : x = y
    · rw [if_pos e] at h1
      subst e
      by_cases e2 : x = z
      · rw [if_pos e2] at h2; rw [if_pos e2]; exact ltL_trans h1 h2
      · rw [if_neg e2] at h2; rw [if_neg e2]; exact h2
    · rw [if_neg e] at h1
      have h1 : x < y := by simpa using h1
      by_cases e2 : y = z
      · subst e2; rw [if_neg e]; simpa using h1
      · rw [if_neg e2] at h2
        have h2 : y < z := by simpa using h2
        rw [if_neg (by omega)]
        have : x < z := by omega
        simpa using this
theorem ltL_total : ∀ {a b : List Nat}, a.length = b.length → ltL a b = false → a = b ∨ ltL b a = true
  | [], [], _, _ => .inl rfl
  | [], _ :: _, h, _ => by simp at h
  | _ :: _, [], h, _ => by simp at h
  | x :: a, y :: b, h, h1 => by
    have hl : a.length = b.length := by simpa using h
    clear h
    unfold ltL at h1 ⊢
    by_cases e : x = y
    · rw [if_pos e] at h1
      subst e
      rw [if_pos rfl]
      rcases ltL_total hl h1 with rfl | h2
      · exact .inl rfl
      · exact .inr h2
    · rw [if_neg e] at h1
      rw [if_neg (fun h => e h.symm)]
      have h1 : ¬ x < y := by simpa using h1
      have : y < x := by omega
      exact .inr (by simpa using this)

theorem range'_asc (s n : Nat) : (List.range' s n).Pairwise (· < ·) := List.pairwise_lt_range'
theorem combs_asc (n : Nat) : ∀ k f, (combs n k f).Pairwise fun a b => ltL a b = true
  | 0, _ => by simp [combs]
  | k + 1, f => by
    unfold combs
    rw [List.pairwise_flatMap]
    refine ⟨fun i _ => ?_, (range'_asc _ _).imp fun {i j} hij x hx y hy => ?_⟩
    · rw [List.pairwise_map]
      exact (combs_asc n k (i + 1)).imp fun {a b} h => by unfold ltL; rw [if_pos rfl]; exact h
    · obtain ⟨a, _, rfl⟩ := List.mem_map.1 hx
      obtain ⟨b, _, rfl⟩ := List.mem_map.1 hy
      unfold ltL
      rw [if_neg (by omega)]
      simpa using hij

theorem first_least {p : List Nat → Bool} : ∀ {l : List (List Nat)} {s : List Nat}, (l.Pairwise fun a b => ltL a b = true) → s ∈ l → p s = true → (∀ t ∈ l, p t = true → t = s ∨ ltL s t = true) → l.find? p = some s
  | [], _, _, h, _, _ => by simp at h
  | t :: l, s, hl, hs, hp, h => by
    rw [List.pairwise_cons] at hl
    by_cases ht : p t = true
    · rw [List.find?_cons_of_pos ht]
      rcases h t (by simp) ht with rfl | h2
      · rfl
      · rcases List.mem_cons.1 hs with rfl | hs
        · rfl
        · have := ltL_asymm (hl.1 s hs)
          rw [h2] at this
          simp at this
    · rw [List.find?_cons_of_neg ht]
      rcases List.mem_cons.1 hs with rfl | hs
      · exact absurd hp ht
      · exact first_least hl.2 hs hp fun t ht => h t (List.mem_cons_of_mem _ ht)

/-- The least of those of k papers, where none of fewer papers serves. -/
theorem sets_first {p : List Nat → Bool} {n k m : Nat} {s : List Nat} (hk : k < m) (h0 : ∀ t ∈ setsTo n k, p t = false) (hs : s ∈ combs n k 0) (hp : p s = true) (h : ∀ t ∈ combs n k 0, p t = true → t = s ∨ ltL s t = true) : (setsTo n m).find? p = some s := by
  obtain ⟨r, hr⟩ := setsTo_prefix n (m - (k + 1)) (k + 1)
  rw [show k + 1 + (m - (k + 1)) = m by omega] at hr
  rw [← hr, setsTo_succ, List.find?_append, List.find?_append, first_least (combs_asc n k 0) hs hp h]
  have : (setsTo n k).find? p = none := List.find?_eq_none.2 fun t ht => by rw [h0 t ht]; simp
  rw [this]
  rfl
theorem sets_none {p : List Nat → Bool} {n k : Nat} (h0 : ∀ t ∈ setsTo n k, p t = false) (h : ∀ t ∈ combs n k 0, p t = false) : ∀ t ∈ setsTo n (k + 1), p t = false := fun t ht => by
  rw [setsTo_succ] at ht
  rcases List.mem_append.1 ht with ht | ht
  · exact h0 t ht
  · exact h t ht
end Go.Proofs.Ytblbbhenmhkknaa
