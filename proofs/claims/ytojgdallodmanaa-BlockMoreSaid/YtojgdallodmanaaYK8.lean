/- BlockOrder: rows that are read (as ClaimOrder's T15); the slices of region 8. -/
import Derived.Test.YtojgdallodmanaaZ16eea0
import Derived.Test.YtojgdallodmanaaYT8
namespace Go.Proofs.Ytojgdallodmanaa
open Go.RowKit

/-- A row that lies in blocks from lo on, to be read. -/
structure RowR {α : Type} (lo k : Nat) (enc : α → List Value) (w : World) (A : Option Addr) (cap : Nat) (xs : List α) : Prop where
  le : xs.length ≤ cap
  max : cap ≤ maxLen
  rd : RdN k enc w w.heap.size A xs
  nil0 : A = none → xs = [] ∧ cap = 0
  here : ∀ a, A = some a → a.spot = none ∧ lo ≤ a.block ∧ a.block < w.heap.size
section
variable {α : Type} {lo k : Nat} {enc : α → List Value} {w w' : World} {A : Option Addr} {cap : Nat} {xs : List α}
theorem RowR.nil : RowR lo k enc w none 0 [] := ⟨Nat.le_refl _, Nat.zero_le _, RdN.nil, fun _ => ⟨rfl, rfl⟩, fun _ h => by cases h⟩
theorem RowR.below (h : RowR lo k enc w A cap xs) (hb : Below w.heap.size w w') : RowR lo k enc w' A cap xs :=
  ⟨h.le, h.max, (h.rd.below hb (Nat.le_refl _)).more hb.size, h.nil0, fun a ha => ⟨(h.here a ha).1, (h.here a ha).2.1, Nat.lt_of_lt_of_le (h.here a ha).2.2 hb.size⟩⟩
theorem RowR.set (h : RowR lo k enc w A cap xs) {g o : Nat} (hg : g < lo) (u : Value) : RowR lo k enc (w.setCell ⟨g, o, none⟩ u) A cap xs := by
  refine ⟨h.le, h.max, fun i x hx => ?_, h.nil0, fun a ha => ?_⟩
  · obtain ⟨b, off, e, hb, hc⟩ := h.rd i x hx
    have := (h.here _ e).2.1
    refine ⟨b, off, e, by simpa using hb, fun j v hv => ?_⟩
    exact keepSet (hc j v hv) (by simp only at this; omega)
  · obtain ⟨h1, h2, h3⟩ := h.here a ha
    exact ⟨h1, h2, by simpa using h3⟩
theorem RowR.of_own (he : ∀ x, (enc x).length = k) {e : TypeId} {v : Value} {n : Nat} {ys : List Value} (h : w.ownsRow lo e k v n ys) (hn : n = xs.length) (hys : ys = xs.flatMap enc) (h0 : 0 < xs.length) : ∃ A cap, v = .slice A xs.length cap ∧ RowR lo k enc w A cap xs := by
  subst hn hys
  obtain ⟨A, cap, e1, h2, h3, h4, h5⟩ := own_rdN he h
  obtain ⟨x, hx⟩ : ∃ x, xs[0]? = some x := ⟨_, List.getElem?_eq_getElem h0⟩
  obtain ⟨b, off, rfl, hb, hc⟩ := h2 0 x hx
  refine ⟨_, cap, e1, h4, h5, h2, fun h => (by cases h), fun a ha => ?_⟩
  injection ha with ha
  subst ha
  exact ⟨rfl, (h3 b off rfl).1, hb⟩
theorem RowR.low (he : ∀ x, (enc x).length = k) (h1 : ∀ x, ∀ u ∈ enc x, u.oneCell' = true) (h : RowR lo k enc w A cap xs) {p : Nat} (hp : p ≤ xs.length) : Srcs w k (.slice A p cap) p ((xs.take p).flatMap enc) := by
  cases A with
  | none =>
    obtain ⟨rfl, rfl⟩ := h.nil0 rfl
    have : p = 0 := by simpa using hp
    subst this
    exact .inl ⟨rfl, rfl, rfl⟩
  | some a =>
    refine .inr ⟨a, cap, rfl, by rw [flat_len he]; simp [Nat.min_eq_left hp], fun j u hu => ?_, fun u hu => ?_⟩
    · by_cases hk : 0 < k
      · have h0 : 0 < (xs.take p).length := by
          rcases Nat.eq_zero_or_pos (xs.take p).length with h0 | h0
          · rw [List.length_eq_zero_iff.1 h0] at hu; simp at hu
          · exact h0
        have hrt := h.rd.take p
        obtain ⟨b, off, e, _, _⟩ := hrt 0 _ (List.getElem?_eq_getElem h0)
        injection e with e
        subst e
        rw [add_off]
        exact flat_cells hk he hrt j u hu
      · have hl := flat_len he (xs.take p)
        have : k = 0 := by omega
        rw [this, Nat.mul_zero] at hl
        rw [List.length_eq_zero_iff.1 hl] at hu
        simp at hu
    · obtain ⟨c, _, hc⟩ := List.mem_flatMap.1 hu
      exact h1 c u hc
theorem RdN.drop {B b off : Nat} (h : RdN k enc w B (some ⟨b, off, none⟩) xs) (p : Nat) : RdN k enc w B (some ⟨b, off + p * k, none⟩) (xs.drop p) := by
  intro i x hx
  rw [List.getElem?_drop] at hx
  obtain ⟨b', off', e, hb, hc⟩ := h (p + i) x hx
  injection e with e
  injection e with e1 e2
  subst e1 e2
  refine ⟨b, _, rfl, hb, fun j u hu => ?_⟩
  have := hc j u hu
  rw [Nat.add_mul, ← Nat.add_assoc] at this
  exact this
theorem RowR.high (hk : 0 < k) (he : ∀ x, (enc x).length = k) (h1 : ∀ x, ∀ u ∈ enc x, u.oneCell' = true) (h : RowR lo k enc w A cap xs) {n p : Nat} (hn : n = xs.length) (hp : p ≤ n) : Srcs w k (.slice (if cap = p then A else A.map fun x => x.add (p * k)) (n - p) (cap - p)) (n - p) ((xs.drop p).flatMap enc) := by
  subst hn
  cases A with
  | none =>
    obtain ⟨rfl, rfl⟩ := h.nil0 rfl
    have : p = 0 := by simpa using hp
    subst this
    exact .inl ⟨by simp, rfl, rfl⟩
  | some a =>
    by_cases hc : cap = p
    · have hle := h.le
      have hpl : p = xs.length := by omega
      rw [if_pos hc]
      refine .inr ⟨a, cap - p, by simp, ?_, ?_, ?_⟩
      · rw [flat_len he]; simp
      · intro j u hu
        rw [hpl, List.drop_length] at hu
        simp at hu
      · intro u hu
        rw [hpl, List.drop_length] at hu
        simp at hu
    · rw [if_neg hc]
      obtain ⟨hs, _, _⟩ := h.here a rfl
      obtain ⟨b, off, sub⟩ := a
      simp only at hs
      subst hs
      refine .inr ⟨⟨b, off + p * k, none⟩, cap - p, by simp [add_off], by rw [flat_len he]; simp, fun j u hu => ?_, fun u hu => ?_⟩
      · rw [add_off]
        exact flat_cells hk he (h.rd.drop p) j u hu
      · obtain ⟨c, _, hc⟩ := List.mem_flatMap.1 hu
        exact h1 c u hc
end

theorem sl16_3 (A : Option Addr) (n cap k : Nat) (hk : (k : Int) ≤ (cap : Int)) (a : Act) (w : World) (h1' : a.eval (.tmp 42) = .slice A n cap) (h2' : a.eval (.tmp 43) = .int .i64 k) : (execOp a.eval (opN ops16_8 3)).run Try.prog w = .ok (.value (.slice A k cap)) w := by
  obtain ⟨o, e⟩ : ∃ o, o = opN ops16_8 3 := ⟨_, rfl⟩
  rw [← e]
  conv at e => rhs; whnf
  subst e
  have h0 : (0 : Int) ≤ (k : Int) := by omega
  have h1 : a.tmps[42]?.getD undef = .slice A n cap := by simpa [Act.eval] using h1'
  have h2 : a.tmps[43]?.getD undef = .int .i64 k := by simpa [Act.eval] using h2'
  clear h1' h2'
  go_simp
theorem sl16_13 (A : Option Addr) (n cap k : Nat) (hk : (k : Int) ≤ (n : Int)) (a : Act) (w : World) (h1' : a.eval (.tmp 52) = .slice A n cap) (h2' : a.eval (.tmp 53) = .int .i64 k) : (execOp a.eval (opN ops16_8 13)).run Try.prog w = .ok (.value (.slice (if cap = k then A else A.map fun x => x.add (k * 3)) (n - k) (cap - k))) w := by
  obtain ⟨o, e⟩ : ∃ o, o = opN ops16_8 13 := ⟨_, rfl⟩
  rw [← e]
  conv at e => rhs; whnf
  subst e
  have h0 : (0 : Int) ≤ (k : Int) := by omega
  have h1 : a.tmps[52]?.getD undef = .slice A n cap := by simpa [Act.eval] using h1'
  have h2 : a.tmps[53]?.getD undef = .int .i64 k := by simpa [Act.eval] using h2'
  clear h1' h2'
  go_simp
/-- A thing put at a place of a list. -/
def putP {α : Type} (xs : List α) (p : Nat) (x : α) : List α := xs.take p ++ [x] ++ xs.drop p
theorem putP_len {α : Type} {xs : List α} {p : Nat} {x : α} : (putP xs p x).length = xs.length + 1 := by unfold putP; simp; omega
theorem putP_mem {α : Type} {xs : List α} {p : Nat} {x y : α} : y ∈ putP xs p x ↔ y ∈ xs ∨ y = x := by
  have h := List.take_append_drop p xs
  have e : y ∈ xs ↔ y ∈ xs.take p ∨ y ∈ xs.drop p := by rw [← List.mem_append, h]
  unfold putP
  rw [List.mem_append, List.mem_append, List.mem_singleton, e]
  constructor
  · rintro ((a | a) | a)
    · exact .inl (.inl a)
    · exact .inr a
    · exact .inl (.inr a)
  · rintro ((a | a) | a)
    · exact .inl (.inl a)
    · exact .inr a
    · exact .inl (.inr a)
theorem ownsRow_base3 {w : World} {base base' : Nat} {e : TypeId} {size : Nat} {v : Value} {n : Nat} {xs : List Value} (h : w.ownsRow base e size v n xs) (hb : base' ≤ base) : w.ownsRow base' e size v n xs := own_base h hb
theorem step_rowB {α : Type} {enc : α → List Value} {k lo p i : Nat} {e : TypeId} {xs : List α} {x : α} {V W : World} {v' : Value} {X : List Value} (he : ∀ x, (enc x).length = k) (hX : X = enc x) (hxl : xs.length = i) (hp : p ≤ i) (hlo : lo ≤ V.heap.size)
    (hL : LiveB V W [some ⟨v', e, k, 0 + p + 1 + (i - p), [] ++ (xs.take p).flatMap enc ++ X ++ (xs.drop p).flatMap enc⟩, none, none, none]) : ∃ A cap, v' = .slice A (i + 1) cap ∧ RowR lo k enc W A cap (putP xs p x) := by
  subst hX
  have ho : W.ownsRow V.heap.size e k v' (0 + p + 1 + (i - p)) ([] ++ (xs.take p).flatMap enc ++ enc x ++ (xs.drop p).flatMap enc) := live_own hL.2 (i := 0) rfl
  have hl : (putP xs p x).length = i + 1 := by rw [putP_len, hxl]
  have ho2 := ownsRow_base3 ho hlo
  obtain ⟨A, cap, h1, h2⟩ := RowR.of_own (xs := putP xs p x) he ho2 (by omega) (by unfold putP; simp [List.flatMap_append]) (by omega)
  exact ⟨A, cap, by rw [h1, hl], h2⟩
end Go.Proofs.Ytojgdallodmanaa
