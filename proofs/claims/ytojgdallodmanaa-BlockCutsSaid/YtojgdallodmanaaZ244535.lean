/- Words for memory, continued: rows of the call's own. Rows of a call's own whose elements take several cells. -/
import Derived.Sort.Row
import Derived.Maps.AppendAt
import Derived.Test.YtojgdallodmanaaZ6c4919
namespace Go.Proofs.Ytojgdallodmanaa
open Go.RowKit

abbrev nv (n : Nat) : Value := .int .i64 (n : Int)

theorem own_form {w : World} {base : Nat} {e : TypeId} {size : Nat} {v : Value} {n : Nat} {xs : List Value} (h : w.ownsRow base e size v n xs) (hn : 0 < n) :
    ∃ g cap, v = .slice (some ⟨g, 0, none⟩) n cap ∧ base ≤ g ∧ g < w.heap.size ∧ n ≤ cap := by
  obtain ⟨_, h2⟩ := h
  rcases h2 with ⟨_, h0⟩ | ⟨g, cap, cur, hv, hb, hh, hc, _⟩
  · omega
  · refine ⟨g, cap, hv, hb, ?_, hc⟩
    rcases Nat.lt_or_ge g w.heap.size with hlt | hge
    · exact hlt
    · rw [Array.getElem?_eq_none hge] at hh; cases hh
/-- A row of the call's own reads as its list. -/
theorem own_rd1 {α : Type} {enc : α → Value} {w : World} {base : Nat} {e : TypeId} {v : Value} {xs : List α} (h : w.ownsRow base e 1 v xs.length (xs.map enc)) :
    ∃ A cap, v = .slice A xs.length cap ∧ Rd1 enc w w.heap.size A xs ∧ (∀ b off, A = some ⟨b, off, none⟩ → base ≤ b ∧ off = 0) := by
  have h' := h
  obtain ⟨_, h2⟩ := h
  rcases h2 with ⟨rfl, h0⟩ | ⟨g, cap, cur, hv, hb, hh, hc, _⟩
  · exact ⟨none, 0, by rw [h0], by
      have : xs = [] := List.length_eq_zero_iff.1 h0
      subst this; exact Rd1.nil, by intro b off h; cases h⟩
  · refine ⟨some ⟨g, 0, none⟩, cap, hv, ?_, by intro b off h; injection h with h; injection h with h1 h2; subst h1 h2; exact ⟨hb, rfl⟩⟩
    intro i x hx
    have hlt : g < w.heap.size := by
      rcases Nat.lt_or_ge g w.heap.size with hlt | hge
      · exact hlt
      · rw [Array.getElem?_eq_none hge] at hh; cases hh
    subst hv
    refine ⟨g, 0, rfl, hlt, ?_⟩
    have hi : i < xs.length := (List.getElem?_eq_some_iff.1 hx).1
    rw [Nat.zero_add, h'.cellAt i (by omega), List.getElem?_map, hx]
    rfl
/-- .. and as the sort's kit has it. -/
theorem own_holds {w : World} {base : Nat} {e : TypeId} {g cap : Nat} {xs : List Nat} (h : w.ownsRow base e 1 (.slice (some ⟨g, 0, none⟩) xs.length cap) xs.length (xs.map nv)) :
    Go.Sort.Holds nv w g 0 xs.toArray := by
  intro j hj
  have hj' : j < xs.length := by simpa using hj
  refine ⟨?_, by rw [Nat.zero_add]; exact h.frozenAt j⟩
  rw [Nat.zero_add, h.cellAt j (by omega), List.getElem?_map, List.getElem?_eq_getElem hj']
  simp [hj']
/-- A cell outside the row that an append may have written. -/
theorem grownC {w w' : World} {v : Value} {base : Nat} {e : TypeId} {size n : Nat} {xs : List Value} (h : w.ownsRow base e size v n xs) (hg : w.grownBy w' v.ownBlock) {b o : Nat} {u : Value} (hb : b < base) (hc : w.cell? ⟨b, o, none⟩ = some u) :
    w'.cell? ⟨b, o, none⟩ = some u :=
  hg.cell hc (fun e2 => by have := (h.lt b e2.symm).1; omega)
theorem grownF {w w' : World} {v : Value} {base : Nat} {e : TypeId} {size n : Nat} {xs : List Value} (h : w.ownsRow base e size v n xs) (hg : w.grownBy w' v.ownBlock) {b o : Nat} {u : Value} (hb : b < base) (hc : w.cell? ⟨b, o, none⟩ = some u) :
    w'.frozen? ⟨b, o, none⟩ = w.frozen? ⟨b, o, none⟩ :=
  World.frozen?_of_block (a := ⟨b, o, none⟩) (hg.block b (lt_of_cell hc) (fun e2 => by have := (h.lt b e2.symm).1; omega))
theorem grownB {a w w' : World} {v : Value} {base : Nat} {e : TypeId} {size n : Nat} {xs : List Value} (h : w.ownsRow base e size v n xs) (hg : w.grownBy w' v.ownBlock) (ha : a.heap.size ≤ base) (hb : Below a.heap.size a w) : Below a.heap.size a w' :=
  hb.grown hg hb.size (fun k hk => by have := (h.lt k hk).1; omega)
theorem one_new (w : World) (v : Value) (t : TypeId) : ∀ j u, [v][j]? = some u → (w.alloc (.cells #[v] t)).cell? ((⟨w.heap.size, 0, none⟩ : Addr).add j) = some u := cell_one_new w v t
end Go.Proofs.Ytojgdallodmanaa

namespace Go.Proofs.Ytojgdallodmanaa
open Go.RowKit

theorem flat_len {α : Type} {k : Nat} {encs : α → List Value} (he : ∀ x, (encs x).length = k) : ∀ xs : List α, (xs.flatMap encs).length = xs.length * k := by
  intro xs
  induction xs with
  | nil => simp
  | cons x xs ih => simp [List.flatMap_cons, he, ih, Nat.succ_mul]; omega
theorem flat_get {α : Type} {k : Nat} {encs : α → List Value} (he : ∀ x, (encs x).length = k) : ∀ (xs : List α) (i : Nat) (x : α), xs[i]? = some x → ∀ j v, (encs x)[j]? = some v → (xs.flatMap encs)[i * k + j]? = some v := by
  intro xs
  induction xs with
  | nil => intro i x h; simp at h
  | cons y xs ih =>
    intro i x h j v hv
    have hj : j < k := by rw [← he x]; exact (List.getElem?_eq_some_iff.1 hv).1
    cases i with
    | zero =>
      simp only [List.getElem?_cons_zero, Option.some.injEq] at h
      subst h
      rw [List.flatMap_cons, Nat.zero_mul, Nat.zero_add, List.getElem?_append_left (by rw [he]; exact hj)]
      exact hv
    | succ i =>
      simp only [List.getElem?_cons_succ] at h
      rw [List.flatMap_cons, List.getElem?_append_right (by rw [he, Nat.succ_mul]; omega), he]
      have e : (i + 1) * k + j - k = i * k + j := by rw [Nat.succ_mul]; omega
      rw [e]
      exact ih i x h j v hv
theorem own_rdN {α : Type} {k : Nat} {encs : α → List Value} (he : ∀ x, (encs x).length = k) {w : World} {base : Nat} {e : TypeId} {v : Value} {xs : List α} (h : w.ownsRow base e k v xs.length (xs.flatMap encs)) :
    ∃ A cap, v = .slice A xs.length cap ∧ RdN k encs w w.heap.size A xs ∧ (∀ b off, A = some ⟨b, off, none⟩ → base ≤ b ∧ off = 0) ∧ xs.length ≤ cap ∧ cap ≤ maxLen := by
  have h' := h
  obtain ⟨_, h2⟩ := h
  rcases h2 with ⟨rfl, h0⟩ | ⟨g, cap, cur, hv, hb, hh, hc, hcm, _⟩
  · have : xs = [] := List.length_eq_zero_iff.1 h0
    subst this
    exact ⟨none, 0, rfl, RdN.nil, (by intro b off h; cases h), Nat.le_refl _, Nat.zero_le _⟩
  · refine ⟨some ⟨g, 0, none⟩, cap, hv, ?_, by intro b off h; injection h with h; injection h with h1 h2; subst h1 h2; exact ⟨hb, rfl⟩, hc, hcm⟩
    intro i x hx
    have hlt : g < w.heap.size := by
      rcases Nat.lt_or_ge g w.heap.size with hlt | hge
      · exact hlt
      · rw [Array.getElem?_eq_none hge] at hh; cases hh
    subst hv
    refine ⟨g, 0, rfl, hlt, ?_⟩
    intro j u hu
    have hf := flat_get he xs i x hx j u hu
    have hlt2 : i * k + j < (xs.flatMap encs).length := (List.getElem?_eq_some_iff.1 hf).1
    rw [flat_len he] at hlt2
    rw [Nat.zero_add, h'.cellAt (i * k + j) hlt2]
    exact hf
theorem cells_new (w : World) (l : List Value) (t : TypeId) : ∀ j u, l[j]? = some u → (w.alloc (.cells l.toArray t)).cell? ((⟨w.heap.size, 0, none⟩ : Addr).add j) = some u := by
  intro j u h
  have hh : (w.alloc (.cells l.toArray t)).heap[w.heap.size]? = some (.cells l.toArray t) := by rw [← World.alloc_eq]; simp
  have hc : ∀ o, (w.alloc (.cells l.toArray t)).cell? ⟨w.heap.size, o, none⟩ = l[o]? := fun o => by simp only [World.cell?, hh]; simp
  rcases Nat.eq_zero_or_pos j with rfl | hj
  · rw [show (⟨w.heap.size, 0, none⟩ : Addr).add 0 = ⟨w.heap.size, 0, none⟩ from rfl, hc]; exact h
  · rw [show (⟨w.heap.size, 0, none⟩ : Addr).add j = ⟨w.heap.size, j, none⟩ from by unfold Addr.add; rw [if_neg (by omega)]; simp, hc]; exact h
theorem cells3_new (w : World) (a b c : Value) (t : TypeId) : ∀ j u, [a, b, c][j]? = some u → (w.alloc (.cells #[a, b, c] t)).cell? ((⟨w.heap.size, 0, none⟩ : Addr).add j) = some u := cells_new w [a, b, c] t
theorem cells2_new (w : World) (a b : Value) (t : TypeId) : ∀ j u, [a, b][j]? = some u → (w.alloc (.cells #[a, b] t)).cell? ((⟨w.heap.size, 0, none⟩ : Addr).add j) = some u := cells_new w [a, b] t
theorem cells4_new (w : World) (a b c d : Value) (t : TypeId) : ∀ j u, [a, b, c, d][j]? = some u → (w.alloc (.cells #[a, b, c, d] t)).cell? ((⟨w.heap.size, 0, none⟩ : Addr).add j) = some u := cells_new w [a, b, c, d] t
end Go.Proofs.Ytojgdallodmanaa
