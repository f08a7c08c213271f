/- Words for memory: a slice that reads as a list (elements of one cell, elements of several cells), and what keeps such a reading. No program is named here. Words for memory, continued: a cell behind a call. -/
import Derived.WalkKit
import Derived.Deep.Draws
namespace Go.Proofs.Ytojgdallodmanaa
open Go.RowKit

/-- The slice at A reads as xs, elements of one cell each; its block lies below B. -/
def Rd1 {α : Type} (enc : α → Value) (w : World) (B : Nat) (A : Option Addr) (xs : List α) : Prop :=
  ∀ (i : Nat) (x : α), xs[i]? = some x → ∃ b off, A = some ⟨b, off, none⟩ ∧ b < B ∧ w.cell? ⟨b, off + i, none⟩ = some (enc x)

/-- The slice at A reads as xs, elements of k cells each; its block lies below B. -/
def RdN {α : Type} (k : Nat) (enc : α → List Value) (w : World) (B : Nat) (A : Option Addr) (xs : List α) : Prop :=
  ∀ (i : Nat) (x : α), xs[i]? = some x → ∃ b off, A = some ⟨b, off, none⟩ ∧ b < B ∧
    ∀ (j : Nat) (u : Value), (enc x)[j]? = some u → w.cell? ⟨b, off + i * k + j, none⟩ = some u

section
variable {α : Type} {enc : α → Value} {encs : α → List Value} {k : Nat} {w w' : World} {B B' : Nat} {A : Option Addr} {xs : List α}

theorem Rd1.keep (h : Rd1 enc w B A xs) (hk : ∀ p : Addr, p.block < B → w'.cell? p = w.cell? p) : Rd1 enc w' B A xs := by
  intro i x hx
  obtain ⟨b, off, e, hb, hc⟩ := h i x hx
  exact ⟨b, off, e, hb, (hk ⟨b, _, none⟩ hb).trans hc⟩
theorem RdN.keep (h : RdN k encs w B A xs) (hk : ∀ p : Addr, p.block < B → w'.cell? p = w.cell? p) : RdN k encs w' B A xs := by
  intro i x hx
  obtain ⟨b, off, e, hb, hc⟩ := h i x hx
  exact ⟨b, off, e, hb, fun j u hu => (hk ⟨b, _, none⟩ hb).trans (hc j u hu)⟩
theorem Rd1.more (h : Rd1 enc w B A xs) (hB : B ≤ B') : Rd1 enc w B' A xs := by
  intro i x hx
  obtain ⟨b, off, e, hb, hc⟩ := h i x hx
  exact ⟨b, off, e, by omega, hc⟩
theorem RdN.more (h : RdN k encs w B A xs) (hB : B ≤ B') : RdN k encs w B' A xs := by
  intro i x hx
  obtain ⟨b, off, e, hb, hc⟩ := h i x hx
  exact ⟨b, off, e, by omega, hc⟩
theorem Rd1.below (h : Rd1 enc w B A xs) (hb : Below B' w w') (hB : B ≤ B') : Rd1 enc w' B A xs := h.keep fun _ hp => hb.cell (by omega)
theorem RdN.below (h : RdN k encs w B A xs) (hb : Below B' w w') (hB : B ≤ B') : RdN k encs w' B A xs := h.keep fun _ hp => hb.cell (by omega)
theorem Rd1.alloc (h : Rd1 enc w B A xs) (hB : B ≤ w.heap.size) (o : Obj) : Rd1 enc (w.alloc o) B A xs := h.keep fun p _ => World.cell?_alloc_lt w o p (by omega)
theorem RdN.alloc (h : RdN k encs w B A xs) (hB : B ≤ w.heap.size) (o : Obj) : RdN k encs (w.alloc o) B A xs := h.keep fun p _ => World.cell?_alloc_lt w o p (by omega)
theorem Rd1.nil : Rd1 enc w B A [] := by intro i x h; simp at h
theorem RdN.nil : RdN k encs w B A [] := by intro i x h; simp at h
theorem Rd1.take (h : Rd1 enc w B A xs) (n : Nat) : Rd1 enc w B A (xs.take n) := by
  intro i x hx
  rw [List.getElem?_take] at hx
  split at hx
  · exact h i x hx
  · cases hx
theorem RdN.take (h : RdN k encs w B A xs) (n : Nat) : RdN k encs w B A (xs.take n) := by
  intro i x hx
  rw [List.getElem?_take] at hx
  split at hx
  · exact h i x hx
  · cases hx
end

/-- All old cells and marks read as they did: in the form in which the walk uses it. -/
theorem bcell {W w1 : World} {B : Nat} (hb : Below B W w1) : (∀ b o, b < B → w1.cell? ⟨b, o, none⟩ = W.cell? ⟨b, o, none⟩) ∧ (∀ b o, b < B → w1.frozen? ⟨b, o, none⟩ = W.frozen? ⟨b, o, none⟩) :=
  ⟨fun b o h => hb.cell (p := ⟨b, o, none⟩) h, fun b o h => hb.frozen (p := ⟨b, o, none⟩) h⟩

theorem belowD {B : Nat} {a w : World} (h : Below B a w) (n : Nat) : Below B a (w.drewN n) := ⟨h.os, h.tape, h.output, h.size, h.block⟩

theorem ret_int {k : IntKind} {a b : Int} (h : a = b) : Ending.returned (.int k a) = .returned (.int k b) := by rw [h]
theorem ret_bool {a b : Bool} (h : a = b) : Ending.returned (.bool a) = .returned (.bool b) := by rw [h]

abbrev iv (n : Int) : Value := .int .i64 n

/-! Below, one step at a time: the bound is the heap's size at the start. -/
section
variable {a w w' : World}
theorem belowR (a : World) : Below a.heap.size a a := Below.refl _ _
theorem belowA (h : Below a.heap.size a w) (o : Obj) : Below a.heap.size a (w.alloc o) := h.alloc h.size o
theorem belowN (h : Below a.heap.size a w) (n : Nat) : Below a.heap.size a (w.drewN n) := belowD h n
theorem belowT (h : Below a.heap.size a w) (hb : Below w.heap.size w w') : Below a.heap.size a w' := h.trans (hb.mono h.size)
theorem belowS (h : Below a.heap.size a w) {p : Addr} (hp : a.heap.size ≤ p.block) (u : Value) : Below a.heap.size a (w.setCell p u) := h.setCell hp u
end

/-! What is looked at: a part, a weighing; joints and spans are pairs of numbers. -/
structure Prt where
  name : ByteArray
  lo : Int
  hi : Int
structure Wgh where
  set : Int
  lo : Int
  hi : Int
def encPrt (p : Prt) : List Value := [.string p.name, iv p.lo, iv p.hi]
def encWgh (p : Wgh) : List Value := [iv p.set, iv p.lo, iv p.hi]
def encSp (p : Int × Int) : List Value := [iv p.1, iv p.2]

/-- One element's cells, as the walk spells them. -/
theorem prtAt {w : World} {B : Nat} {A : Option Addr} {xs : List Prt} (h : RdN 3 encPrt w B A xs) {i : Nat} {x : Prt} (hx : xs[i]? = some x) :
    ∃ b off, A = some ⟨b, off, none⟩ ∧ b < B ∧ w.cell? ⟨b, off + i * 3, none⟩ = some (.string x.name) ∧ w.cell? ⟨b, off + i * 3 + 1, none⟩ = some (iv x.lo) ∧ w.cell? ⟨b, off + i * 3 + 2, none⟩ = some (iv x.hi) := by
  obtain ⟨b, off, e, hb, hc⟩ := h i x hx
  exact ⟨b, off, e, hb, hc 0 _ rfl, hc 1 _ rfl, hc 2 _ rfl⟩
theorem wghAt {w : World} {B : Nat} {A : Option Addr} {xs : List Wgh} (h : RdN 3 encWgh w B A xs) {i : Nat} {x : Wgh} (hx : xs[i]? = some x) :
    ∃ b off, A = some ⟨b, off, none⟩ ∧ b < B ∧ w.cell? ⟨b, off + i * 3, none⟩ = some (iv x.set) ∧ w.cell? ⟨b, off + i * 3 + 1, none⟩ = some (iv x.lo) ∧ w.cell? ⟨b, off + i * 3 + 2, none⟩ = some (iv x.hi) := by
  obtain ⟨b, off, e, hb, hc⟩ := h i x hx
  exact ⟨b, off, e, hb, hc 0 _ rfl, hc 1 _ rfl, hc 2 _ rfl⟩
theorem spAt {w : World} {B : Nat} {A : Option Addr} {xs : List (Int × Int)} (h : RdN 2 encSp w B A xs) {i : Nat} {x : Int × Int} (hx : xs[i]? = some x) :
    ∃ b off, A = some ⟨b, off, none⟩ ∧ b < B ∧ w.cell? ⟨b, off + i * 2, none⟩ = some (iv x.1) ∧ w.cell? ⟨b, off + i * 2 + 1, none⟩ = some (iv x.2) := by
  obtain ⟨b, off, e, hb, hc⟩ := h i x hx
  exact ⟨b, off, e, hb, hc 0 _ rfl, hc 1 _ rfl⟩

/-- The first of some things with an error: its index, and the error. -/
def firstBad (f : Nat → Int) (n : Nat) : Option (Nat × Int) := (List.range n).findSome? fun i => if f i = 0 then none else some (i, f i)
theorem firstBad_succ {f : Nat → Int} {n : Nat} (h : firstBad f n = none) (h2 : f n = 0) : firstBad f (n + 1) = none := by
  unfold firstBad at *
  rw [List.range_succ, List.findSome?_append, h]
  simp [h2]
theorem firstBad_at {f : Nat → Int} {n m : Nat} (h : firstBad f n = none) (h2 : f n ≠ 0) (hm : n < m) : firstBad f m = some (n, f n) := by
  induction m with
  | zero => omega
  | succ m ih =>
    unfold firstBad at *
    rw [List.range_succ, List.findSome?_append]
    rcases Nat.lt_or_ge n m with hlt | hge
    · rw [ih hlt]; rfl
    · obtain rfl : n = m := by omega
      rw [h]
      simp [h2]

end Go.Proofs.Ytojgdallodmanaa

namespace Go.Proofs.Ytojgdallodmanaa
open Go.RowKit
theorem lt_of_cell {w : World} {b o : Nat} {v : Value} (h : w.cell? ⟨b, o, none⟩ = some v) : b < w.heap.size := by
  rcases Nat.lt_or_ge b w.heap.size with hlt | hge
  · exact hlt
  · simp [World.cell?, Array.getElem?_eq_none hge] at h
theorem keepC {W w1 : World} (hb : Below W.heap.size W w1) {b o : Nat} {v : Value} (h : W.cell? ⟨b, o, none⟩ = some v) : w1.cell? ⟨b, o, none⟩ = some v :=
  (hb.cell (p := ⟨b, o, none⟩) (lt_of_cell h)).trans h
theorem keepF {W w1 : World} (hb : Below W.heap.size W w1) {b o : Nat} {v : Value} (h : W.cell? ⟨b, o, none⟩ = some v) : w1.frozen? ⟨b, o, none⟩ = W.frozen? ⟨b, o, none⟩ :=
  hb.frozen (p := ⟨b, o, none⟩) (lt_of_cell h)
theorem keepA {w : World} {b o : Nat} {v : Value} (h : w.cell? ⟨b, o, none⟩ = some v) (ob : Obj) : (w.alloc ob).cell? ⟨b, o, none⟩ = some v :=
  (World.cell?_alloc_lt w ob ⟨b, o, none⟩ (lt_of_cell h)).trans h
end Go.Proofs.Ytojgdallodmanaa
