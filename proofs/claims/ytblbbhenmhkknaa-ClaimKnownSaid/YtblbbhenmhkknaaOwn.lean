/- Owners: what the claims are made by; bounds. No program is walked here. -/
import Derived.Test.YtblbbhenmhkknaaW13
namespace Go.Proofs.Ytblbbhenmhkknaa
open Go.RowKit Go.Maps

theorem flatMap_len {α β : Type} (g : α → List β) (b : Nat) : ∀ (l : List α), (∀ x ∈ l, (g x).length ≤ b) → (l.flatMap g).length ≤ l.length * b := by
  intro l
  induction l with
  | nil => intro _; simp
  | cons a l ih =>
    intro h
    simp only [List.flatMap_cons, List.length_append, List.length_cons, Nat.succ_mul]
    have := ih fun x hx => h x (by simp [hx])
    have := h a (by simp)
    omega
theorem combs_len (n : Nat) : ∀ k f, (combs n k f).length ≤ (n + 1) ^ k := by
  intro k
  induction k with
  | zero => intro f; simp [combs]
  | succ k ih =>
    intro f
    refine Nat.le_trans (flatMap_len _ ((n + 1) ^ k) _ fun x _ => by simpa using ih (x + 1)) ?_
    rw [List.length_range', Nat.pow_succ, Nat.mul_comm]
    exact Nat.mul_le_mul_left _ (by omega)
theorem setsTo_len (n m : Nat) (hn : n ≤ 8) (hm : m ≤ 9) : (setsTo n m).length ≤ 3486784401 := by
  have h : (setsTo n m).length ≤ (List.range m).length * (9 ^ 9) := by
    refine flatMap_len _ _ _ fun k hk => ?_
    have hk' : k ≤ 9 := by have := List.mem_range.1 hk; omega
    refine Nat.le_trans (combs_len n k 0) (Nat.le_trans (Nat.pow_le_pow_left (by omega : n + 1 ≤ 9) k) (Nat.pow_le_pow_right (by omega) hk'))
  rw [List.length_range] at h
  have : m * 9 ^ 9 ≤ 9 * 9 ^ 9 := Nat.mul_le_mul_right _ hm
  omega
theorem ownerL_cons (c : ByteArray) (ps : List Pap) (i : Nat) (o fl : List Nat) : ∃ d, ownerL c ps (i :: o) fl = ownerL d ps o fl ∧ (d = c ∨ ∃ p ∈ ps, d = p.dst) := by
  cases h : memB fl i
  · cases hp : ps[i]? with
    | none => exact ⟨c, by simp [ownerL, h, hp], .inl rfl⟩
    | some p =>
      refine ⟨stepO c p, by simp [ownerL, h, hp], ?_⟩
      unfold stepO
      split
      · exact .inr ⟨p, List.mem_of_getElem? hp, rfl⟩
      · exact .inl rfl
  · exact ⟨c, by simp [ownerL, h], .inl rfl⟩
theorem ownerL_cases (first : ByteArray) (ps : List Pap) (fl : List Nat) : ∀ (o : List Nat) (c : ByteArray), (c = first ∨ ∃ p ∈ ps, c = p.dst) → (ownerL c ps o fl = first ∨ ∃ p ∈ ps, ownerL c ps o fl = p.dst) := by
  intro o
  induction o with
  | nil => intro c h; exact h
  | cons i o ih =>
    intro c h
    obtain ⟨d, e, hd⟩ := ownerL_cons c ps i o fl
    rw [e]
    refine ih d ?_
    rcases hd with rfl | hd
    · exact h
    · exact .inr hd
theorem ownerL_size {first : ByteArray} {ps : List Pap} (hf : first.size ≤ maxLen) (hok : PapsOk ps) (o fl : List Nat) : (ownerL first ps o fl).size ≤ maxLen := by
  rcases ownerL_cases first ps fl o first (.inl rfl) with h | ⟨p, hp, h⟩
  · rw [h]; exact hf
  · rw [h]; exact hok.dst p hp
end Go.Proofs.Ytblbbhenmhkknaa
