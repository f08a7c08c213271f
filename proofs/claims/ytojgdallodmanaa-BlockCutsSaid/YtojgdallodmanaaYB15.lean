/- The tree of weighings: the plain law of its building. No program is named here. -/
import Derived.Test.YtojgdallodmanaaZac0b93
namespace Go.Proofs.Ytojgdallodmanaa

/-- All parts of a are parts of b. -/
def subN (a b : Nat) : Bool := a &&& (255 - b) == 0
def setAt (N : List Nd) (i : Nat) : Nat := match N[i]? with
  | some nd => nd.set
  | none => 0
/-- The first node behind i that has all parts of i. -/
def findUp (N : List Nd) (i : Nat) : Option Nat := (List.range N.length).find? fun m => decide (i < m) && subN (setAt N i) (setAt N m)
/-- The node m gets i. -/
def giveTo (N : List Nd) (i m : Nat) : List Nd := N.modify m fun nd => { nd with own := nd.own &&& (255 - setAt N i), kids := nd.kids ++ [i] }
def treeTo (N0 : List Nd) : Nat → List Nd
  | 0 => N0
  | i + 1 => match findUp (treeTo N0 i) i with
    | none => treeTo N0 i
    | some m => giveTo (treeTo N0 i) i m

theorem giveTo_len (N : List Nd) (i m : Nat) : (giveTo N i m).length = N.length := by simp [giveTo]
theorem treeTo_len (N0 : List Nd) : ∀ i, (treeTo N0 i).length = N0.length := by
  intro i
  induction i with
  | zero => rfl
  | succ i ih =>
    rw [treeTo]
    split
    · exact ih
    · rw [giveTo_len]; exact ih
theorem giveTo_get (N : List Nd) (i m j : Nat) (nd : Nd) (h : (giveTo N i m)[j]? = some nd) : ∃ nd0, N[j]? = some nd0 ∧ nd.lo = nd0.lo ∧ nd.hi = nd0.hi ∧ nd.set = nd0.set ∧ ((j ≠ m ∧ nd = nd0) ∨ (j = m ∧ nd.own = nd0.own &&& (255 - setAt N i) ∧ nd.kids = nd0.kids ++ [i])) := by
  unfold giveTo at h
  rw [List.getElem?_modify] at h
  by_cases hj : m = j
  · subst hj
    simp only [if_true] at h
    cases hn : N[m]? with
    | none => rw [hn] at h; simp at h
    | some nd0 =>
      rw [hn] at h
      simp at h
      subst h
      exact ⟨nd0, rfl, rfl, rfl, rfl, .inr ⟨rfl, rfl, rfl⟩⟩
  · simp only [if_neg hj] at h
    cases hn : N[j]? with
    | none => rw [hn] at h; simp at h
    | some nd0 =>
      rw [hn] at h
      simp at h
      subst h
      exact ⟨nd0, rfl, rfl, rfl, rfl, .inl ⟨fun e => hj e.symm, rfl⟩⟩
theorem findUp_some {N : List Nd} {i m : Nat} (h : findUp N i = some m) : i < m ∧ m < N.length ∧ subN (setAt N i) (setAt N m) = true := by
  have h1 := List.find?_some h
  have h2 := List.mem_of_find?_eq_some h
  simp at h1 h2
  exact ⟨h1.1, h2, h1.2⟩
/-- What the building keeps: the numbers of a node, its own parts are of its parts, what is in it comes before it. -/
structure Shaped (N0 N : List Nd) : Prop where
  len : N.length = N0.length
  same : ∀ (j : Nat) (nd : Nd), N[j]? = some nd → ∃ nd0, N0[j]? = some nd0 ∧ nd.lo = nd0.lo ∧ nd.hi = nd0.hi ∧ nd.set = nd0.set ∧ nd.own ≤ nd0.own
  kid : ∀ (j : Nat) (nd : Nd), N[j]? = some nd → ∀ k ∈ nd.kids, k < j
theorem shaped_tree {N0 : List Nd} (h0 : ∀ nd ∈ N0, nd.kids = []) : ∀ i, Shaped N0 (treeTo N0 i) := by
  intro i
  induction i with
  | zero =>
    exact ⟨rfl, fun j nd h => ⟨nd, h, rfl, rfl, rfl, Nat.le_refl _⟩, fun j nd h k hk => by rw [h0 nd (List.mem_of_getElem? h)] at hk; cases hk⟩
  | succ i ih =>
    rw [treeTo]
    split
    · exact ih
    · rename_i m hm
      obtain ⟨h1, _, _⟩ := findUp_some hm
      refine ⟨(giveTo_len _ _ _).trans ih.len, fun j nd h => ?_, fun j nd h k hk => ?_⟩
      · obtain ⟨nd1, e1, e2, e3, e4, e5⟩ := giveTo_get _ _ _ _ _ h
        obtain ⟨nd0, f1, f2, f3, f4, f5⟩ := ih.same j nd1 e1
        refine ⟨nd0, f1, e2.trans f2, e3.trans f3, e4.trans f4, ?_⟩
        rcases e5 with ⟨_, rfl⟩ | ⟨_, e6, _⟩
        · exact f5
        · rw [e6]
          exact Nat.le_trans Nat.and_le_left f5
      · obtain ⟨nd1, e1, _, _, _, e5⟩ := giveTo_get _ _ _ _ _ h
        rcases e5 with ⟨_, rfl⟩ | ⟨rfl, _, e7⟩
        · exact ih.kid j nd e1 k hk
        · rw [e7] at hk
          rcases List.mem_append.1 hk with hk | hk
          · exact ih.kid j nd1 e1 k hk
          · have : k = i := by simpa using hk
            omega
theorem kids_len {N0 : List Nd} (h0 : ∀ nd ∈ N0, nd.kids = []) : ∀ (i j : Nat) (nd : Nd), (treeTo N0 i)[j]? = some nd → nd.kids.length ≤ i := by
  intro i
  induction i with
  | zero =>
    intro j nd h
    rw [h0 nd (List.mem_of_getElem? h)]
    simp
  | succ i ih =>
    intro j nd h
    rw [treeTo] at h
    split at h
    · have := ih j nd h
      omega
    · obtain ⟨nd1, e1, _, _, _, e5⟩ := giveTo_get _ _ _ _ _ h
      have h1 := ih j nd1 e1
      rcases e5 with ⟨_, rfl⟩ | ⟨_, _, e7⟩
      · omega
      · rw [e7]
        simp
        omega
/-- A tree that is built of nodes with good numbers is one that can be weighed. -/
theorem treeOk_of {ps : List Prt} {N0 : List Nd} (hp : PsOk ps) (hl : ps.length ≤ 8) (h0 : ∀ nd ∈ N0, nd.kids = []) (hb : ∀ nd ∈ N0, 0 ≤ nd.lo ∧ nd.lo ≤ 1000000 ∧ 0 ≤ nd.hi ∧ nd.hi ≤ 1000000 ∧ nd.own < 256) (n0 : 0 < N0.length) (n7 : N0.length ≤ 7) : TreeOk ps (treeTo N0 N0.length) := by
  have hs := shaped_tree h0 N0.length
  refine ⟨hp, hl, fun nd hnd => ?_, by rw [hs.len]; exact n0, by rw [hs.len]; exact n7, hs.kid⟩
  obtain ⟨j, hj⟩ := List.getElem?_of_mem hnd
  obtain ⟨nd0, e1, e2, e3, _, e5⟩ := hs.same j nd hj
  obtain ⟨b1, b2, b3, b4, b5⟩ := hb nd0 (List.mem_of_getElem? e1)
  have := kids_len h0 N0.length j nd hj
  rw [e2, e3]
  exact ⟨b1, b2, b3, b4, by omega, by omega⟩
end Go.Proofs.Ytojgdallodmanaa
