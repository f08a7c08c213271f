/- The sets of papers that can be forged, in the order in which they are gone through. No program is named here. -/
namespace Go.Proofs.Ytblbbhenmhkknaa

/-- All ascending lists of k numbers from 'from_' to n - 1, number by number in order. -/
def combs (n : Nat) : Nat → Nat → List (List Nat)
  | 0, _ => [[]]
  | k + 1, from_ => (List.range' from_ (n - from_)).flatMap fun i => (combs n k (i + 1)).map (i :: ·)
/-- Those whose first number is below i. -/
def combsTo (n k from_ i : Nat) : List (List Nat) := (List.range' from_ (i - from_)).flatMap fun j => (combs n k (j + 1)).map (j :: ·)
theorem combsTo_start (n k f : Nat) : combsTo n k f f = [] := by simp [combsTo]
theorem combsTo_end (n k f : Nat) : combsTo n k f n = combs n (k + 1) f := rfl
theorem combsTo_succ (n k f i : Nat) (h : f ≤ i) : combsTo n k f (i + 1) = combsTo n k f i ++ (combs n k (i + 1)).map (i :: ·) := by
  unfold combsTo
  have e : i + 1 - f = (i - f) + 1 := by omega
  rw [e, List.range'_concat, List.flatMap_append]
  have e2 : f + (i - f) = i := by omega
  simp [e2]
theorem combsTo_prefix (n k f : Nat) : ∀ (d i : Nat), f ≤ i → combsTo n k f i <+: combsTo n k f (i + d) := by
  intro d
  induction d with
  | zero => intro i _; exact List.prefix_refl _
  | succ d ih =>
    intro i h
    refine (ih i h).trans ?_
    rw [show i + (d + 1) = (i + d) + 1 from by omega, combsTo_succ _ _ _ _ (by omega)]
    exact List.prefix_append _ _

/-- The sets of at most so many papers: the smaller ones first. -/
def setsTo (n m : Nat) : List (List Nat) := (List.range m).flatMap fun k => combs n k 0
theorem setsTo_succ (n m : Nat) : setsTo n (m + 1) = setsTo n m ++ combs n m 0 := by
  unfold setsTo; rw [List.range_succ, List.flatMap_append]; simp
theorem setsTo_prefix (n : Nat) : ∀ (d m : Nat), setsTo n m <+: setsTo n (m + d) := by
  intro d
  induction d with
  | zero => intro m; exact List.prefix_refl _
  | succ d ih =>
    intro m
    refine (ih m).trans ?_
    rw [show m + (d + 1) = (m + d) + 1 from by omega, setsTo_succ]
    exact List.prefix_append _ _

theorem mem_combs (n : Nat) : ∀ (k f : Nat) (l : List Nat), l ∈ combs n k f ↔ l.length = k ∧ l.Pairwise (· < ·) ∧ ∀ x ∈ l, f ≤ x ∧ x < n := by
  intro k
  induction k with
  | zero =>
    intro f l
    simp only [combs, List.mem_singleton]
    constructor
    · rintro rfl; simp
    · rintro ⟨h, _⟩; exact List.length_eq_zero_iff.1 h
  | succ k ih =>
    intro f l
    simp only [combs, List.mem_flatMap, List.mem_range'_1, List.mem_map]
    constructor
    · rintro ⟨i, hi, m, hm, rfl⟩
      obtain ⟨h1, h2, h3⟩ := (ih (i + 1) m).1 hm
      refine ⟨by simp [h1], ?_, ?_⟩
      · rw [List.pairwise_cons]
        exact ⟨fun x hx => by have := h3 x hx; omega, h2⟩
      · intro x hx
        rcases List.mem_cons.1 hx with rfl | hx
        · omega
        · have := h3 x hx; omega
    · rintro ⟨h1, h2, h3⟩
      cases l with
      | nil => simp at h1
      | cons i m =>
        rw [List.pairwise_cons] at h2
        have hi := h3 i (by simp)
        refine ⟨i, by omega, m, (ih (i + 1) m).2 ⟨by simpa using h1, h2.2, fun x hx => ?_⟩, rfl⟩
        have a := h2.1 x hx
        have b := h3 x (by simp [hx])
        omega
theorem mem_setsTo (n m : Nat) (l : List Nat) : l ∈ setsTo n m ↔ l.length < m ∧ l.Pairwise (· < ·) ∧ ∀ x ∈ l, x < n := by
  simp only [setsTo, List.mem_flatMap, List.mem_range, mem_combs]
  constructor
  · rintro ⟨k, hk, h1, h2, h3⟩
    exact ⟨by omega, h2, fun x hx => (h3 x hx).2⟩
  · rintro ⟨h1, h2, h3⟩
    exact ⟨l.length, h1, rfl, h2, fun x hx => ⟨Nat.zero_le _, h3 x hx⟩⟩
end Go.Proofs.Ytblbbhenmhkknaa
