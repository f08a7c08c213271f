/- The plain law of the insertion sort: what it makes of ascending indices is in the one order by day and index. No program is named here. -/
import Derived.Sort.Row
namespace Go.Proofs.Ytojgdallodmanaa
open Go.Sort

theorem toList_swp {d : Array Nat} {P S : List Nat} {y x : Nat} (h : d.toList = P ++ y :: x :: S) : (swp d (P.length + 1) P.length).toList = P ++ x :: y :: S := by
  have h1 : d[P.length]! = y := by
    rw [getElem!_def, ← Array.getElem?_toList, h]
    simp
  have h2 : d[P.length + 1]! = x := by
    rw [getElem!_def, ← Array.getElem?_toList, h]
    simp
  unfold swp
  rw [h1, h2, Array.toList_setIfInBounds, Array.toList_setIfInBounds, h]
  simp

variable (lt : Nat → Nat → Bool)
theorem insInner_list : ∀ (j : Nat) (d : Array Nat) (P S : List Nat) (x : Nat), d.toList = P ++ x :: S → P.length = j →
    ∃ P1 P2, P = P1 ++ P2 ∧ (∀ y ∈ P2, lt x y = true) ∧ (∀ z, P1.getLast? = some z → lt x z = false) ∧ (insInner lt 0 j d).toList = P1 ++ x :: (P2 ++ S) := by
  intro j
  induction j with
  | zero =>
    intro d P S x h hl
    have hP : P = [] := List.length_eq_zero_iff.1 hl
    subst hP
    exact ⟨[], [], rfl, by simp, by simp, by rw [insInner, h]; rfl⟩
  | succ j ih =>
    intro d P S x h hl
    rcases List.eq_nil_or_concat P with rfl | ⟨Q, y, rfl⟩
    · simp at hl
    have hq : Q.length = j := by simpa using hl
    have hd : d.toList = Q ++ y :: x :: S := by rw [h]; simp
    have h1 : d[j]! = y := by
      rw [getElem!_def, ← Array.getElem?_toList, hd]
      simp [← hq]
    have h2 : d[j + 1]! = x := by
      rw [getElem!_def, ← Array.getElem?_toList, hd]
      simp [← hq]
    cases hlt : lt x y
    · refine ⟨Q.concat y, [], by simp, by simp, fun z hz => ?_, ?_⟩
      · have : z = y := by simpa using hz.symm
        rw [this]; exact hlt
      · rw [insInner, if_neg (by rw [h1, h2]; simp [hlt]), h]
        simp
    · have hs := toList_swp hd
      rw [hq] at hs
      obtain ⟨P1, P2, e, hall, hlast, hr⟩ := ih (swp d (j + 1) j) Q (y :: S) x hs hq
      refine ⟨P1, P2 ++ [y], by simp [e], ?_, hlast, ?_⟩
      · intro z hz
        rcases List.mem_append.1 hz with hz | hz
        · exact hall z hz
        · have : z = y := by simpa using hz
          rw [this]; exact hlt
      · rw [insInner, if_pos (by rw [h1, h2]; simp [hlt]), hr]
        simp

/-- The one order: by day, then by index. -/
def KO (day : Nat → Int) (a b : Nat) : Prop := day a < day b ∨ (day a = day b ∧ a < b)
theorem KO_irrefl (day : Nat → Int) (a : Nat) : ¬ KO day a a := by unfold KO; omega
theorem KO_asymm {day : Nat → Int} {a b : Nat} (h : KO day a b) : ¬ KO day b a := by unfold KO at *; omega
theorem KO_trans {day : Nat → Int} {a b c : Nat} (h : KO day a b) (k : KO day b c) : KO day a c := by unfold KO at *; omega

/-- Two lists in that order that have the same members are the same. -/
theorem KO_unique (day : Nat → Int) : ∀ (l m : List Nat), l.Pairwise (KO day) → m.Pairwise (KO day) → (∀ x, x ∈ l ↔ x ∈ m) → l = m := by
  intro l
  induction l with
  | nil =>
    intro m _ _ h
    cases m with
    | nil => rfl
    | cons y m => exact absurd ((h y).2 (by simp)) (by simp)
  | cons x l ih =>
    intro m hl hm h
    cases m with
    | nil => exact absurd ((h x).1 (by simp)) (by simp)
    | cons y m =>
      rw [List.pairwise_cons] at hl hm
      have hxy : x = y := by
        have h1 := (h x).1 (by simp)
        have h2 := (h y).2 (by simp)
        rcases List.mem_cons.1 h1 with e | h1
        · exact e
        rcases List.mem_cons.1 h2 with e | h2
        · exact e.symm
        exact absurd (hl.1 y h2) (KO_asymm (hm.1 x h1))
      subst hxy
      congr 1
      refine ih m hl.2 hm.2 fun z => ⟨fun hz => ?_, fun hz => ?_⟩
      · rcases List.mem_cons.1 ((h z).1 (List.mem_cons_of_mem _ hz)) with e | h1
        · exact absurd (e ▸ hl.1 z hz) (KO_irrefl _ _)
        · exact h1
      · rcases List.mem_cons.1 ((h z).2 (List.mem_cons_of_mem _ hz)) with e | h1
        · exact absurd (e ▸ hm.1 z hz) (KO_irrefl _ _)
        · exact h1

theorem insert_sorted {day : Nat → Int} {P1 P2 : List Nat} {x : Nat} (hs : (P1 ++ P2).Pairwise (KO day)) (hx : ∀ y ∈ P1 ++ P2, y < x)
    (h2 : ∀ y ∈ P2, day x < day y) (h1 : ∀ z, P1.getLast? = some z → ¬ day x < day z) : (P1 ++ x :: P2).Pairwise (KO day) := by
  rw [List.pairwise_append] at hs ⊢
  obtain ⟨a, b, c⟩ := hs
  have hP1 : ∀ y ∈ P1, KO day y x := by
    intro y hy
    rcases List.eq_nil_or_concat P1 with rfl | ⟨Q, z, rfl⟩
    · simp at hy
    have hz := h1 z (by simp)
    have hy' : y < x := hx y (List.mem_append_left _ hy)
    have hyz : day y ≤ day z := by
      rw [List.concat_eq_append, List.pairwise_append] at a
      rw [List.concat_eq_append, List.mem_append] at hy
      rcases hy with hy | hy
      · have := a.2.2 y hy z (by simp)
        unfold KO at this; omega
      · have : y = z := by simpa using hy
        rw [this]; omega
    unfold KO; omega
  refine ⟨a, ?_, ?_⟩
  · rw [List.pairwise_cons]
    exact ⟨fun y hy => by have := h2 y hy; unfold KO; omega, b⟩
  · intro y hy z hz
    rcases List.mem_cons.1 hz with rfl | hz
    · exact hP1 y hy
    · exact c y hy z hz

theorem insOuter_list (day : Nat → Int) : ∀ (S : List Nat) (d : Array Nat) (P : List Nat), d.toList = P ++ S → P.Pairwise (KO day) → (∀ y ∈ P, ∀ z ∈ S, y < z) → S.Pairwise (· < ·) →
    ∃ o, (insOuter (fun x y => decide (day x - day y < 0)) 0 d.size P.length d).toList = o ∧ o.Pairwise (KO day) ∧ (∀ x, x ∈ o ↔ x ∈ P ∨ x ∈ S) ∧ o.length = d.size := by
  intro S
  induction S with
  | nil =>
    intro d P h hP _ _
    have hl : d.size = P.length := by rw [← Array.length_toList, h]; simp
    rw [insOuter, if_neg (by omega)]
    exact ⟨_, rfl, by rw [h]; simpa using hP, by rw [h]; simp, by rw [h]; simp [hl]⟩
  | cons x S ih =>
    intro d P h hP hlt hS
    have hl : d.size = P.length + (S.length + 1) := by rw [← Array.length_toList, h]; simp
    rw [List.pairwise_cons] at hS
    rw [insOuter, if_pos (by omega)]
    obtain ⟨P1, P2, e, h2, h1, hr⟩ := insInner_list (fun x y => decide (day x - day y < 0)) P.length d P S x h rfl
    generalize hd' : insInner (fun x y => decide (day x - day y < 0)) 0 P.length d = d' at hr
    have hsz : d'.size = d.size := by rw [← Array.length_toList, hr, hl, e]; simp; omega
    have hd2 : d'.toList = (P1 ++ x :: P2) ++ S := by rw [hr]; simp
    have hPl : (P1 ++ x :: P2).length = P.length + 1 := by rw [e]; simp; omega
    obtain ⟨o, ho, hs, hm, hlen⟩ := ih d' (P1 ++ x :: P2) hd2
      (insert_sorted (e ▸ hP) (fun y hy => hlt y (e ▸ hy) x (by simp)) (fun y hy => by have := h2 y hy; simp at this; omega) (fun z hz => by have := h1 z hz; simp at this; omega))
      (fun y hy z hz => by
        rcases List.mem_append.1 hy with hy | hy
        · exact hlt y (e ▸ List.mem_append_left _ hy) z (by simp [hz])
        · rcases List.mem_cons.1 hy with rfl | hy
          · exact hS.1 z hz
          · exact hlt y (e ▸ List.mem_append_right _ hy) z (by simp [hz])) hS.2
    rw [hPl, hsz] at ho
    refine ⟨o, ho, hs, fun z => ?_, by omega⟩
    rw [hm z, e]
    simp only [List.mem_append, List.mem_cons]
    constructor
    · rintro ((a | a | a) | a)
      · exact .inl (.inl a)
      · exact .inr (.inl a)
      · exact .inl (.inr a)
      · exact .inr (.inr a)
    · rintro ((a | a) | (a | a))
      · exact .inl (.inl a)
      · exact .inl (.inr (.inr a))
      · exact .inl (.inr (.inl a))
      · exact .inr a

theorem insertionSort_list (day : Nat → Int) (d : Array Nat) (h : d.toList.Pairwise (· < ·)) :
    ∃ o, (Sort.insertionSort (fun x y => decide (day x - day y < 0)) d 0 d.size).toList = o ∧ o.Pairwise (KO day) ∧ (∀ x, x ∈ o ↔ x ∈ d.toList) ∧ o.length = d.size := by
  unfold Sort.insertionSort
  cases hd : d.toList with
  | nil =>
    have hz : d.size = 0 := by rw [← Array.length_toList, hd]; rfl
    rw [insOuter, if_neg (by omega)]
    exact ⟨_, rfl, by rw [hd]; simp, by rw [hd]; simp, by simp⟩
  | cons x S =>
    rw [hd, List.pairwise_cons] at h
    obtain ⟨o, ho, hs, hm, hl⟩ := insOuter_list day S d [x] (by rw [hd]; rfl) (by simp) (by simpa using h.1) h.2
    exact ⟨o, ho, hs, fun z => by rw [hm z]; simp, hl⟩
end Go.Proofs.Ytojgdallodmanaa
