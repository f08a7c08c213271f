/- A region of a function's text, by its number: for proofs that take one region apart from its function. What follows a region in a function's text: so that a long walk can be done in pieces. Words for memory: a slice that reads as a list (elements of one cell, elements of several cells), and what keeps such a reading. No program is named here. What is left of a hull, and how it stands: the plain .. -/
import Derived.WalkKit
import Derived.Deep.Draws
import Derived.Sort.Row
import Derived.Maps.AppendAt
import Derived.Test.YtmhjhbchokbonaaGreatProg
import Derived.WalkLawsBesides
import Derived.WalkSpells
import Derived.Lib.Hide
import Derived.Deep.QuietTactic
import Derived.BigQuiet
import Derived.Laws.RangeAny
import Derived.Below
set_option maxRecDepth 1000000
set_option maxHeartbeats 16000000
namespace Go.Proofs.YtmhjhbchokbonaaGreat
section
open Go.RowKit
abbrev iv (n : Int) : Value := .int .i64 n
abbrev BW (a w : World) : Prop := Below a.heap.size a w
abbrev Rt (w : World) (v : Value) : Ending → World → Prop := fun e w' => e = .returned v ∧ Below w.heap.size w w'
abbrev pT (b o : Nat) : Value := .pointer (some ⟨b, o, none⟩)
theorem ex {α : Type} (x : α) : ∃ y, x = y := ⟨x, rfl⟩
theorem Lq {p : Prop} (h : p) : Hid p := h
end
def regionNo (n : Nat) : Code → Option Code
 | .region id ops d => if id = n then some (.region id ops d) else none
 | .seq a b => match regionNo n a with
  | some c => some c
  | none => regionNo n b
 | .cond _ a b => match regionNo n a with
  | some c => some c
  | none => regionNo n b
 | .block _ c => regionNo n c
 | .loop c => regionNo n c
 | .scope c => regionNo n c
 | _ => none
noncomputable def regionOf (f : Func) (n : Nat) : Code := (f.body.bind (regionNo n)).getD .skip
def isReg (n : Nat) : Code → Bool
 | .region id _ _ => id == n
 | _ => false
def afterNo (n : Nat) : Code → Option Code
 | .seq a b => if isReg n a then some b else match afterNo n a with
  | some c => some c
  | none => afterNo n b
 | .cond _ a b => match afterNo n a with
  | some c => some c
  | none => afterNo n b
 | .block _ c => afterNo n c
 | .loop c => afterNo n c
 | .scope c => afterNo n c
 | _ => none
noncomputable def restOf (f : Func) (n : Nat) : Code := (f.body.bind (afterNo n)).getD .skip
end Go.Proofs.YtmhjhbchokbonaaGreat
namespace Go.Proofs.YtmhjhbchokbonaaGreat
open Go.RowKit
def Rd1 {α : Type} (enc : α → Value) (w : World) (B : Nat) (A : Option Addr) (xs : List α) : Prop :=
 ∀ (i : Nat) (x : α), xs[i]? = some x → ∃ b off, A = some ⟨b, off, none⟩ ∧ b < B ∧ w.cell? ⟨b, off + i, none⟩ = some (enc x)
def RdN {α : Type} (k : Nat) (enc : α → List Value) (w : World) (B : Nat) (A : Option Addr) (xs : List α) : Prop :=
 ∀ (i : Nat) (x : α), xs[i]? = some x → ∃ b off, A = some ⟨b, off, none⟩ ∧ b < B ∧
  ∀ (j : Nat) (u : Value), (enc x)[j]? = some u → w.cell? ⟨b, off + i * k + j, none⟩ = some u
section
variable {α : Type} {enc : α → Value} {encs : α → List Value} {k : Nat} {w w' : World} {B B' : Nat} {A : Option Addr} {xs : List α}
theorem Rd1.keep (h : Rd1 enc w B A xs) (hk : ∀ p : Addr, p.block < B → w'.cell? p = w.cell? p) : Rd1 enc w' B A xs := by
 intro i x hx
 obtain ⟨b, off, e, hb, hc⟩ := h i x hx
 exact ⟨b, off, e, hb, (hk ⟨b, _, none⟩ hb).trans hc⟩
theorem RdN.keep (h : RdN k encs w B A xs) (hk : ∀ p : Addr, p.block < B → w'.cell? p = w.cell? p) : RdN k encs w' B A xs := by
 intro i x hx
 obtain ⟨b, off, e, hb, hc⟩ := h i x hx
 exact ⟨b, off, e, hb, fun j u hu => (hk ⟨b, _, none⟩ hb).trans (hc j u hu)⟩
theorem Rd1.more (h : Rd1 enc w B A xs) (hB : B ≤ B') : Rd1 enc w B' A xs := by
 intro i x hx
 obtain ⟨b, off, e, hb, hc⟩ := h i x hx
 exact ⟨b, off, e, by omega, hc⟩
theorem RdN.more (h : RdN k encs w B A xs) (hB : B ≤ B') : RdN k encs w B' A xs := by
 intro i x hx
 obtain ⟨b, off, e, hb, hc⟩ := h i x hx
 exact ⟨b, off, e, by omega, hc⟩
theorem Rd1.below (h : Rd1 enc w B A xs) (hb : Below B' w w') (hB : B ≤ B') : Rd1 enc w' B A xs := h.keep fun _ hp => hb.cell (by omega)
theorem RdN.below (h : RdN k encs w B A xs) (hb : Below B' w w') (hB : B ≤ B') : RdN k encs w' B A xs := h.keep fun _ hp => hb.cell (by omega)
theorem Rd1.alloc (h : Rd1 enc w B A xs) (hB : B ≤ w.heap.size) (o : Obj) : Rd1 enc (w.alloc o) B A xs := h.keep fun p _ => World.cell?_alloc_lt w o p (by omega)
theorem RdN.alloc (h : RdN k encs w B A xs) (hB : B ≤ w.heap.size) (o : Obj) : RdN k encs (w.alloc o) B A xs := h.keep fun p _ => World.cell?_alloc_lt w o p (by omega)
theorem Rd1.nil : Rd1 enc w B A [] := by intro i x h; simp at h
theorem RdN.nil : RdN k encs w B A [] := by intro i x h; simp at h
theorem Rd1.take (h : Rd1 enc w B A xs) (n : Nat) : Rd1 enc w B A (xs.take n) := by
 intro i x hx
 rw [List.getElem?_take] at hx
 split at hx
 ·exact h i x hx
 ·cases hx
theorem RdN.take (h : RdN k encs w B A xs) (n : Nat) : RdN k encs w B A (xs.take n) := by
 intro i x hx
 rw [List.getElem?_take] at hx
 split at hx
 ·exact h i x hx
 ·cases hx
end
theorem bcell {W w1 : World} {B : Nat} (hb : Below B W w1) : (∀ b o, b < B → w1.cell? ⟨b, o, none⟩ = W.cell? ⟨b, o, none⟩) ∧ (∀ b o, b < B → w1.frozen? ⟨b, o, none⟩ = W.frozen? ⟨b, o, none⟩) :=
 ⟨fun b o h => hb.cell (p := ⟨b, o, none⟩) h, fun b o h => hb.frozen (p := ⟨b, o, none⟩) h⟩
theorem belowD {B : Nat} {a w : World} (h : Below B a w) (n : Nat) : Below B a (w.drewN n) := ⟨h.os, h.tape, h.output, h.size, h.block⟩
theorem ret_bool {a b : Bool} (h : a = b) : Ending.returned (.bool a) = .returned (.bool b) := by rw [h]
/-! Below, one step at a time: the bound is the heap's size at the start. -/
section
variable {a w w' : World}
theorem belowR (a : World) : BW a a := Below.refl _ _
theorem belowA (h : BW a w) (o : Obj) : BW a (w.alloc o) := h.alloc h.size o
theorem belowN (h : BW a w) (n : Nat) : BW a (w.drewN n) := belowD h n
theorem belowT (h : BW a w) (hb : BW w w') : BW a w' := h.trans (hb.mono h.size)
theorem belowS (h : BW a w) {p : Addr} (hp : a.heap.size ≤ p.block) (u : Value) : BW a (w.setCell p u) := h.setCell hp u
end
/-! What is looked at: a part, a weighing; joints and spans are pairs of numbers. -/
structure Prt where
 name : ByteArray
 lo : Int
 hi : Int
structure Wgh where
 set : Int
 lo : Int
 hi : Int
def encPrt (p : Prt) : List Value := [.string p.name, iv p.lo, iv p.hi]
def encWgh (p : Wgh) : List Value := [iv p.set, iv p.lo, iv p.hi]
def encSp (p : Int × Int) : List Value := [iv p.1, iv p.2]
theorem prtAt {w : World} {B : Nat} {A : Option Addr} {xs : List Prt} (h : RdN 3 encPrt w B A xs) {i : Nat} {x : Prt} (hx : xs[i]? = some x) :
  ∃ b off, A = some ⟨b, off, none⟩ ∧ b < B ∧ w.cell? ⟨b, off + i * 3, none⟩ = some (.string x.name) ∧ w.cell? ⟨b, off + i * 3 + 1, none⟩ = some (iv x.lo) ∧ w.cell? ⟨b, off + i * 3 + 2, none⟩ = some (iv x.hi) := by
 obtain ⟨b, off, e, hb, hc⟩ := h i x hx
 exact ⟨b, off, e, hb, hc 0 _ rfl, hc 1 _ rfl, hc 2 _ rfl⟩
theorem wghAt {w : World} {B : Nat} {A : Option Addr} {xs : List Wgh} (h : RdN 3 encWgh w B A xs) {i : Nat} {x : Wgh} (hx : xs[i]? = some x) :
  ∃ b off, A = some ⟨b, off, none⟩ ∧ b < B ∧ w.cell? ⟨b, off + i * 3, none⟩ = some (iv x.set) ∧ w.cell? ⟨b, off + i * 3 + 1, none⟩ = some (iv x.lo) ∧ w.cell? ⟨b, off + i * 3 + 2, none⟩ = some (iv x.hi) := by
 obtain ⟨b, off, e, hb, hc⟩ := h i x hx
 exact ⟨b, off, e, hb, hc 0 _ rfl, hc 1 _ rfl, hc 2 _ rfl⟩
theorem spAt {w : World} {B : Nat} {A : Option Addr} {xs : List (Int × Int)} (h : RdN 2 encSp w B A xs) {i : Nat} {x : Int × Int} (hx : xs[i]? = some x) :
  ∃ b off, A = some ⟨b, off, none⟩ ∧ b < B ∧ w.cell? ⟨b, off + i * 2, none⟩ = some (iv x.1) ∧ w.cell? ⟨b, off + i * 2 + 1, none⟩ = some (iv x.2) := by
 obtain ⟨b, off, e, hb, hc⟩ := h i x hx
 exact ⟨b, off, e, hb, hc 0 _ rfl, hc 1 _ rfl⟩
def firstBad (f : Nat → Int) (n : Nat) : Option (Nat × Int) := (List.range n).findSome? fun i => if f i = 0 then none else some (i, f i)
theorem firstBad_succ {f : Nat → Int} {n : Nat} (h : firstBad f n = none) (h2 : f n = 0) : firstBad f (n + 1) = none := by
 unfold firstBad at *
 rw [List.range_succ, List.findSome?_append, h]
 simp [h2]
theorem firstBad_at {f : Nat → Int} {n m : Nat} (h : firstBad f n = none) (h2 : f n ≠ 0) (hm : n < m) : firstBad f m = some (n, f n) := by
 induction m with
 | zero => omega
 | succ m ih =>
  unfold firstBad at *
  rw [List.range_succ, List.findSome?_append]
  rcases Nat.lt_or_ge n m with hlt | hge
  ·rw [ih hlt]; rfl
  ·obtain rfl : n = m := by omega
   rw [h]
   simp [h2]
end Go.Proofs.YtmhjhbchokbonaaGreat
namespace Go.Proofs.YtmhjhbchokbonaaGreat
structure StP where
 name : ByteArray
 pos : Int
 wlo : Int
 whi : Int
 keel : Int
 llo : Int
 lhi : Int
structure StH where
 ps : List StP
 aft : Int
 fore : Int
def overP (x : StP) (w : Int) : Int := max 0 (w - x.keel)
def lightP5 (x : StP) (w : Int) : Int := x.wlo - x.lhi * overP x w
def heavyP5 (x : StP) (w : Int) : Int := x.whi - x.llo * overP x w
def armK (a f : Int) (k : Nat) (x : StP) : Int := if k = 0 then 1 else if k = 1 then x.pos - a else f - x.pos
def leastT (a f : Int) (k : Nat) (w : Int) (x : StP) : Int := armK a f k x * (if armK a f k x < 0 then heavyP5 x w else lightP5 x w)
def accP (g : Nat → StP → Int) (ps : List StP) : Nat → Int
 | 0 => 0
 | k + 1 => accP g ps k + (match ps[k]? with | some x => g k x | none => 0)
def leastK (h : StH) (k : Nat) (w : Int) : Int := accP (fun _ x => leastT h.aft h.fore k w x) h.ps h.ps.length
def truthT (tw tl : List Int) (a f : Int) (k : Nat) (w : Int) (i : Nat) (x : StP) : Int := armK a f k x * (tw[i]?.getD 0 - tl[i]?.getD 0 * overP x w)
def truthK (h : StH) (tw tl : List Int) (k : Nat) (w : Int) : Int := accP (truthT tw tl h.aft h.fore k w) h.ps h.ps.length
def whyOf (d a f : Int) : Int := if d ≤ 0 then 1 else if a < 0 then 2 else if f < 0 then 3 else 0
theorem whyOf_zero {d a f : Int} : whyOf d a f = 0 ↔ 0 < d ∧ 0 ≤ a ∧ 0 ≤ f := by
 unfold whyOf
 split
 ·omega
 ·split
  ·omega
  ·split <;> omega
theorem overP_nn (x : StP) (w : Int) : 0 ≤ overP x w := by unfold overP; omega
theorem accP_le {g g' : Nat → StP → Int} {ps ps' : List StP} : ∀ k, (∀ i x, i < k → ps[i]? = some x → ∃ y, ps'[i]? = some y ∧ g i x ≤ g' i y) → (∀ i, i < k → ps[i]? = none → ps'[i]? = none) → accP g ps k ≤ accP g' ps' k := by
 intro k
 induction k with
 | zero => intro _ _; exact Int.le_refl _
 | succ k ih =>
  intro h1 h2
  have := ih (fun i x hi => h1 i x (by omega)) fun i hi => h2 i (by omega)
  rw [accP, accP]
  cases hx : ps[k]? with
  | none => rw [h2 k (by omega) hx]; simp only; omega
  | some x =>
   obtain ⟨y, hy, hle⟩ := h1 k x (by omega) hx
   rw [hy]
   simp only
   omega
theorem mul_le_pos {a x y : Int} (ha : 0 ≤ a) (h : x ≤ y) : a * x ≤ a * y := Int.mul_le_mul_of_nonneg_left h ha
theorem mul_le_neg {a x y : Int} (ha : a ≤ 0) (h : y ≤ x) : a * x ≤ a * y := by
 have := Int.mul_le_mul_of_nonneg_left h (show 0 ≤ -a by omega)
 rw [Int.neg_mul, Int.neg_mul] at this
 omega
structure Finer (x y : StP) : Prop where
 name : y.name = x.name
 pos : y.pos = x.pos
 keel : y.keel = x.keel
 llo : y.llo = x.llo
 lhi : y.lhi = x.lhi
 lo : x.wlo ≤ y.wlo
 hi : y.whi ≤ x.whi
theorem Finer.least {x y : StP} (h : Finer x y) (a f : Int) (k : Nat) (w : Int) : leastT a f k w x ≤ leastT a f k w y := by
 have e1 : armK a f k y = armK a f k x := by unfold armK; rw [h.pos]
 have e2 : overP y w = overP x w := by unfold overP; rw [h.keel]
 have h1 := h.lo
 have h2 := h.hi
 unfold leastT
 rw [e1]
 split
 ·refine mul_le_neg (by omega) ?_
  unfold heavyP5
  rw [e2, h.llo]
  omega
 ·refine mul_le_pos (by omega) ?_
  unfold lightP5
  rw [e2, h.lhi]
  omega
theorem truth_least {x : StP} {tw tl : Int} (h1 : x.wlo ≤ tw) (h2 : tw ≤ x.whi) (h3 : x.llo ≤ tl) (h4 : tl ≤ x.lhi) (a f : Int) (k : Nat) (w : Int) : leastT a f k w x ≤ armK a f k x * (tw - tl * overP x w) := by
 have ho := overP_nn x w
 unfold leastT
 split
 ·refine mul_le_neg (by omega) ?_
  have := Int.mul_le_mul_of_nonneg_right h3 ho
  unfold heavyP5
  omega
 ·refine mul_le_pos (by omega) ?_
  have := Int.mul_le_mul_of_nonneg_right h4 ho
  unfold lightP5
  omega
theorem even_term {lo hi w arm tw tl : Int} {x : StP} (h1 : lo ≤ w) (h2 : w ≤ hi) (hk : x.keel ≤ lo ∨ hi ≤ x.keel) : (hi - lo) * (arm * (tw - tl * overP x w)) = (hi - w) * (arm * (tw - tl * overP x lo)) + (w - lo) * (arm * (tw - tl * overP x hi)) := by
 unfold overP
 rcases hk with hk | hk
 ·rw [show max 0 (w - x.keel) = w - x.keel by omega, show max 0 (lo - x.keel) = lo - x.keel by omega, show max 0 (hi - x.keel) = hi - x.keel by omega]
  simp only [Int.mul_sub, Int.mul_comm, Int.mul_left_comm]
  omega
 ·rw [show max 0 (w - x.keel) = 0 by omega, show max 0 (lo - x.keel) = 0 by omega, show max 0 (hi - x.keel) = 0 by omega]
  simp only [Int.mul_zero, Int.sub_zero, Int.sub_mul]
  omega
theorem even_sum {g0 g1 g2 : Nat → StP → Int} {ps : List StP} {a b c : Int} : ∀ k, (∀ i x, i < k → ps[i]? = some x → a * g0 i x = b * g1 i x + c * g2 i x) → a * accP g0 ps k = b * accP g1 ps k + c * accP g2 ps k := by
 intro k
 induction k with
 | zero => intro _; simp [accP]
 | succ k ih =>
  intro h
  have h1 := ih fun i x hi => h i x (by omega)
  rw [accP, accP, accP, Int.mul_add, Int.mul_add, Int.mul_add, h1]
  cases hx : ps[k]? with
  | none => simp
  | some x =>
   have := h k x (by omega) hx
   simp only
   omega
theorem even_ge {lo hi w s s0 s1 c : Int} (h1 : lo ≤ w) (h2 : w ≤ hi) (he : (hi - lo) * s = (hi - w) * s0 + (w - lo) * s1) (h3 : c ≤ s0) (h4 : c ≤ s1) (hlt : lo < hi) : c ≤ s := by
 have a1 := Int.mul_le_mul_of_nonneg_left h3 (show 0 ≤ hi - w by omega)
 have a2 := Int.mul_le_mul_of_nonneg_left h4 (show 0 ≤ w - lo by omega)
 have e : (hi - lo) * c = (hi - w) * c + (w - lo) * c := by rw [← Int.add_mul]; congr 1; omega
 have : (hi - lo) * c ≤ (hi - lo) * s := by omega
 exact Int.le_of_mul_le_mul_left this (by omega)
def piecesOf : Int → List Int → List (Int × Int)
 | _, [] => []
 | a, b :: L => (a, b) :: piecesOf b L
def halves (why : Int → Int) : Nat → Int → Int → Int
 | 0, _, hi => hi
 | n + 1, lo, hi => if 1 < hi - lo then (if why ((lo + hi).tdiv 2) = 0 then halves why n ((lo + hi).tdiv 2) hi else halves why n lo ((lo + hi).tdiv 2)) else hi
def firstL (why : Int → Int) : List (Int × Int) → Int × Int
 | [] => (0, 0)
 | (a, b) :: L => if why a ≠ 0 then (why a, a) else if why b = 0 then firstL why L else (why (halves why 1001 a b), halves why 1001 a b)
section
variable {why why' : Int → Int}
theorem halves_bad : ∀ (n : Nat) (lo hi : Int), why hi ≠ 0 → why (halves why n lo hi) ≠ 0 := by
 intro n
 induction n with
 | zero => intro lo hi h; exact h
 | succ n ih =>
  intro lo hi h
  rw [halves]
  split
  ·split
   ·exact ih _ _ h
   ·rename_i h2; exact ih _ _ h2
  ·exact h
theorem firstL_zero : ∀ L : List (Int × Int), (firstL why L).1 = 0 ↔ ∀ p ∈ L, why p.1 = 0 ∧ why p.2 = 0 := by
 intro L
 induction L with
 | nil => simp [firstL]
 | cons p L ih =>
  obtain ⟨a, b⟩ := p
  rw [firstL]
  split
  ·rename_i h
   constructor
   ·intro h2; exact absurd h2 h
   ·intro h2; exact absurd (h2 (a, b) (by simp)).1 h
  ·rename_i h
   split
   ·rename_i h2
    rw [ih]
    constructor
    ·intro h3 p hp
     rcases List.mem_cons.1 hp with rfl | hp
     ·exact ⟨by simpa using h, h2⟩
     ·exact h3 p hp
    ·intro h3 p hp; exact h3 p (by simp [hp])
   ·rename_i h2
    constructor
    ·intro h3; exact absurd h3 (halves_bad _ _ _ h2)
    ·intro h3; exact absurd (h3 (a, b) (by simp)).2 h2
theorem firstL_mono (h : ∀ w, why w = 0 → why' w = 0) (L : List (Int × Int)) (h0 : (firstL why L).1 = 0) : (firstL why' L).1 = 0 := by
 rw [firstL_zero] at h0 ⊢
 exact fun p hp => ⟨h _ (h0 p hp).1, h _ (h0 p hp).2⟩
end
structure Bends (keels : List Int) (lo hi : Int) (L : List Int) : Prop where
 sorted : L.Pairwise (· ≤ ·)
 ge : ∀ b ∈ L, lo ≤ b
 le : ∀ b ∈ L, b ≤ hi
 last : hi ∈ L
 all : ∀ k ∈ keels, lo < k → k < hi → k ∈ L
theorem bends_cover {keels : List Int} {hi : Int} : ∀ (L : List Int) (lo : Int), Bends keels lo hi L → ∀ w, lo ≤ w → w ≤ hi → ∃ p ∈ piecesOf lo L, p.1 ≤ w ∧ w ≤ p.2 ∧ lo ≤ p.1 ∧ p.2 ≤ hi ∧ ∀ k ∈ keels, k ≤ p.1 ∨ p.2 ≤ k := by
 intro L
 induction L with
 | nil => intro lo hB; have := hB.last; simp at this
 | cons b L ih =>
  intro lo hB w h1 h2
  have hs := hB.sorted
  rw [List.pairwise_cons] at hs
  rcases Int.lt_or_le b w with h3 | h3
  ·have hb := hB.ge b (by simp)
   have hB' : Bends keels b hi L := ⟨hs.2, hs.1, fun x hx => hB.le x (by simp [hx]), by
    rcases List.mem_cons.1 hB.last with e | e
    ·omega
    ·exact e, fun k hk h4 h5 => by
    rcases List.mem_cons.1 (hB.all k hk (by omega) h5) with e | e
    ·omega
    ·exact e⟩
   obtain ⟨p, hp, a1, a2, a3, a4, a5⟩ := ih b hB' w (by omega) h2
   exact ⟨p, by rw [piecesOf]; simp [hp], a1, a2, by omega, a4, a5⟩
  ·refine ⟨(lo, b), by rw [piecesOf]; simp, h1, h3, Int.le_refl _, hB.le b (by simp), fun k hk => ?_⟩
   simp only
   rcases Int.lt_or_le lo k with h4 | h4
   ·rcases Int.lt_or_le k b with h5 | h5
    ·have hm := hB.all k hk h4 (by have := hB.le b (by simp); omega)
     rcases List.mem_cons.1 hm with e | e
     ·omega
     ·have := hs.1 k e; omega
    ·exact .inr h5
   ·exact .inl h4
def whyH (h : StH) (w : Int) : Int := whyOf (leastK h 0 w) (leastK h 1 w) (leastK h 2 w)
def TruthOf (h : StH) (tw tl : List Int) : Prop := tw.length = h.ps.length ∧ tl.length = h.ps.length ∧ ∀ (i : Nat) (x : StP), h.ps[i]? = some x → x.wlo ≤ tw[i]?.getD 0 ∧ tw[i]?.getD 0 ≤ x.whi ∧ x.llo ≤ tl[i]?.getD 0 ∧ tl[i]?.getD 0 ≤ x.lhi
theorem least_truth {h : StH} {tw tl : List Int} (ht : TruthOf h tw tl) (k : Nat) (w : Int) : leastK h k w ≤ truthK h tw tl k w := by
 unfold leastK truthK
 refine accP_le _ (fun i x _ hx => ⟨x, hx, ?_⟩) fun i _ hx => hx
 obtain ⟨a, b, c, d⟩ := ht.2.2 i x hx
 exact truth_least a b c d _ _ _ _
theorem truth_even {h : StH} {tw tl : List Int} {lo hi w : Int} (h1 : lo ≤ w) (h2 : w ≤ hi) (hk : ∀ x ∈ h.ps, x.keel ≤ lo ∨ hi ≤ x.keel) (k : Nat) : (hi - lo) * truthK h tw tl k w = (hi - w) * truthK h tw tl k lo + (w - lo) * truthK h tw tl k hi := by
 unfold truthK
 exact even_sum _ fun i x _ hx => even_term h1 h2 (hk x (List.mem_of_getElem? hx))
theorem stands_truth {h : StH} {tw tl : List Int} {lo hi : Int} {L : List Int} (ht : TruthOf h tw tl) (hB : Bends (h.ps.map StP.keel) lo hi L) (h0 : (firstL (whyH h) (piecesOf lo L)).1 = 0) {w : Int} (h1 : lo ≤ w) (h2 : w ≤ hi) : whyOf (truthK h tw tl 0 w) (truthK h tw tl 1 w) (truthK h tw tl 2 w) = 0 := by
 obtain ⟨p, hp, a1, a2, _, _, a5⟩ := bends_cover L lo hB w h1 h2
 obtain ⟨b1, b2⟩ := (firstL_zero _).1 h0 p hp
 unfold whyH at b1 b2
 rw [whyOf_zero] at b1 b2
 have hk : ∀ x ∈ h.ps, x.keel ≤ p.1 ∨ p.2 ≤ x.keel := fun x hx => a5 _ (List.mem_map.2 ⟨x, hx, rfl⟩)
 have key : ∀ k c, c ≤ leastK h k p.1 → c ≤ leastK h k p.2 → c ≤ truthK h tw tl k w := fun k c c1 c2 => by
  have d1 := Int.le_trans c1 (least_truth ht k p.1)
  have d2 := Int.le_trans c2 (least_truth ht k p.2)
  rcases Int.lt_or_le p.1 p.2 with hlt | hge
  ·exact even_ge a1 a2 (truth_even a1 a2 hk k) d1 d2 hlt
  ·have e : w = p.1 := by omega
   rw [e]; exact d1
 rw [whyOf_zero]
 have k0 := key 0 1 (by omega) (by omega)
 exact ⟨by omega, key 1 0 b1.2.1 b2.2.1, key 2 0 b1.2.2 b2.2.2⟩
structure FinerH (h f : StH) : Prop where
 aft : f.aft = h.aft
 fore : f.fore = h.fore
 len : f.ps.length = h.ps.length
 each : ∀ (i : Nat) (x : StP), h.ps[i]? = some x → ∃ y, f.ps[i]? = some y ∧ Finer x y
theorem FinerH.least {h f : StH} (H : FinerH h f) (k : Nat) (w : Int) : leastK h k w ≤ leastK f k w := by
 unfold leastK
 rw [H.aft, H.fore, H.len]
 refine accP_le _ (fun i x _ hx => ?_) fun i hi hx => ?_
 ·obtain ⟨y, hy, hF⟩ := H.each i x hx
  exact ⟨y, hy, hF.least _ _ _ _⟩
 ·rw [List.getElem?_eq_none_iff] at hx ⊢
  rw [H.len]; exact hx
theorem FinerH.why {h f : StH} (H : FinerH h f) (w : Int) (h0 : whyH h w = 0) : whyH f w = 0 := by
 unfold whyH at h0 ⊢
 rw [whyOf_zero] at h0 ⊢
 have := H.least 0 w
 have := H.least 1 w
 have := H.least 2 w
 omega
theorem FinerH.keels {h f : StH} (H : FinerH h f) : f.ps.map StP.keel = h.ps.map StP.keel := by
 apply List.ext_getElem?
 intro i
 rw [List.getElem?_map, List.getElem?_map]
 cases hx : h.ps[i]? with
 | none =>
  have : f.ps[i]? = none := by rw [List.getElem?_eq_none_iff] at hx ⊢; rw [H.len]; exact hx
  rw [this]
 | some x =>
  obtain ⟨y, hy, hF⟩ := H.each i x hx
  rw [hy]
  simp [hF.keel]
end Go.Proofs.YtmhjhbchokbonaaGreat
namespace Go.Proofs.YtmhjhbchokbonaaGreat
open Go.RowKit
theorem lt_of_cell {w : World} {b o : Nat} {v : Value} (h : w.cell? ⟨b, o, none⟩ = some v) : b < w.heap.size := by
 rcases Nat.lt_or_ge b w.heap.size with hlt | hge
 ·exact hlt
 ·simp [World.cell?, Array.getElem?_eq_none hge] at h
theorem keepC {W w1 : World} (hb : BW W w1) {b o : Nat} {v : Value} (h : W.cell? ⟨b, o, none⟩ = some v) : w1.cell? ⟨b, o, none⟩ = some v :=
 (hb.cell (p := ⟨b, o, none⟩) (lt_of_cell h)).trans h
theorem keepF {W w1 : World} (hb : BW W w1) {b o : Nat} {v : Value} (h : W.cell? ⟨b, o, none⟩ = some v) : w1.frozen? ⟨b, o, none⟩ = W.frozen? ⟨b, o, none⟩ :=
 hb.frozen (p := ⟨b, o, none⟩) (lt_of_cell h)
theorem keepA {w : World} {b o : Nat} {v : Value} (h : w.cell? ⟨b, o, none⟩ = some v) (ob : Obj) : (w.alloc ob).cell? ⟨b, o, none⟩ = some v :=
 (World.cell?_alloc_lt w ob ⟨b, o, none⟩ (lt_of_cell h)).trans h
abbrev nv (n : Nat) : Value := iv (n : Int)
theorem own_form {w : World} {base : Nat} {e : TypeId} {size : Nat} {v : Value} {n : Nat} {xs : List Value} (h : w.ownsRow base e size v n xs) (hn : 0 < n) :
  ∃ g cap, v = .slice (some ⟨g, 0, none⟩) n cap ∧ base ≤ g ∧ g < w.heap.size ∧ n ≤ cap := by
 obtain ⟨_, h2⟩ := h
 rcases h2 with ⟨_, h0⟩ | ⟨g, cap, cur, hv, hb, hh, hc, _⟩
 ·omega
 ·refine ⟨g, cap, hv, hb, ?_, hc⟩
  rcases Nat.lt_or_ge g w.heap.size with hlt | hge
  ·exact hlt
  ·rw [Array.getElem?_eq_none hge] at hh; cases hh
theorem own_rd1 {α : Type} {enc : α → Value} {w : World} {base : Nat} {e : TypeId} {v : Value} {xs : List α} (h : w.ownsRow base e 1 v xs.length (xs.map enc)) :
  ∃ A cap, v = .slice A xs.length cap ∧ Rd1 enc w w.heap.size A xs ∧ (∀ b off, A = some ⟨b, off, none⟩ → base ≤ b ∧ off = 0) := by
 have h' := h
 obtain ⟨_, h2⟩ := h
 rcases h2 with ⟨rfl, h0⟩ | ⟨g, cap, cur, hv, hb, hh, hc, _⟩
 ·exact ⟨none, 0, by rw [h0], by
   have : xs = [] := List.length_eq_zero_iff.1 h0
   subst this; exact Rd1.nil, by intro b off h; cases h⟩
 ·refine ⟨some ⟨g, 0, none⟩, cap, hv, ?_, by intro b off h; injection h with h; injection h with h1 h2; subst h1 h2; exact ⟨hb, rfl⟩⟩
  intro i x hx
  have hlt : g < w.heap.size := by
   rcases Nat.lt_or_ge g w.heap.size with hlt | hge
   ·exact hlt
   ·rw [Array.getElem?_eq_none hge] at hh; cases hh
  subst hv
  refine ⟨g, 0, rfl, hlt, ?_⟩
  have hi : i < xs.length := (List.getElem?_eq_some_iff.1 hx).1
  rw [Nat.zero_add, h'.cellAt i (by omega), List.getElem?_map, hx]
  rfl
theorem grownB {a w w' : World} {v : Value} {base : Nat} {e : TypeId} {size n : Nat} {xs : List Value} (h : w.ownsRow base e size v n xs) (hg : w.grownBy w' v.ownBlock) (ha : a.heap.size ≤ base) (hb : BW a w) : BW a w' :=
 hb.grown hg hb.size (fun k hk => by have := (h.lt k hk).1; omega)
theorem one_new (w : World) (v : Value) (t : TypeId) : ∀ j u, [v][j]? = some u → (w.alloc (.cells #[v] t)).cell? ((⟨w.heap.size, 0, none⟩ : Addr).add j) = some u := cell_one_new w v t
theorem flat_len {α : Type} {k : Nat} {encs : α → List Value} (he : ∀ x, (encs x).length = k) : ∀ xs : List α, (xs.flatMap encs).length = xs.length * k := by
 intro xs
 induction xs with
 | nil => simp
 | cons x xs ih => simp [List.flatMap_cons, he, ih, Nat.succ_mul]; omega
theorem flat_get {α : Type} {k : Nat} {encs : α → List Value} (he : ∀ x, (encs x).length = k) : ∀ (xs : List α) (i : Nat) (x : α), xs[i]? = some x → ∀ j v, (encs x)[j]? = some v → (xs.flatMap encs)[i * k + j]? = some v := by
 intro xs
 induction xs with
 | nil => intro i x h; simp at h
 | cons y xs ih =>
  intro i x h j v hv
  have hj : j < k := by rw [← he x]; exact (List.getElem?_eq_some_iff.1 hv).1
  cases i with
  | zero =>
   simp only [List.getElem?_cons_zero, Option.some.injEq] at h
   subst h
   rw [List.flatMap_cons, Nat.zero_mul, Nat.zero_add, List.getElem?_append_left (by rw [he]; exact hj)]
   exact hv
  | succ i =>
   simp only [List.getElem?_cons_succ] at h
   rw [List.flatMap_cons, List.getElem?_append_right (by rw [he, Nat.succ_mul]; omega), he]
   have e : (i + 1) * k + j - k = i * k + j := by rw [Nat.succ_mul]; omega
   rw [e]
   exact ih i x h j v hv
theorem own_rdN {α : Type} {k : Nat} {encs : α → List Value} (he : ∀ x, (encs x).length = k) {w : World} {base : Nat} {e : TypeId} {v : Value} {xs : List α} (h : w.ownsRow base e k v xs.length (xs.flatMap encs)) :
  ∃ A cap, v = .slice A xs.length cap ∧ RdN k encs w w.heap.size A xs ∧ (∀ b off, A = some ⟨b, off, none⟩ → base ≤ b ∧ off = 0) ∧ xs.length ≤ cap ∧ cap ≤ maxLen := by
 have h' := h
 obtain ⟨_, h2⟩ := h
 rcases h2 with ⟨rfl, h0⟩ | ⟨g, cap, cur, hv, hb, hh, hc, hcm, _⟩
 ·have : xs = [] := List.length_eq_zero_iff.1 h0
  subst this
  exact ⟨none, 0, rfl, RdN.nil, (by intro b off h; cases h), Nat.le_refl _, Nat.zero_le _⟩
 ·refine ⟨some ⟨g, 0, none⟩, cap, hv, ?_, by intro b off h; injection h with h; injection h with h1 h2; subst h1 h2; exact ⟨hb, rfl⟩, hc, hcm⟩
  intro i x hx
  have hlt : g < w.heap.size := by
   rcases Nat.lt_or_ge g w.heap.size with hlt | hge
   ·exact hlt
   ·rw [Array.getElem?_eq_none hge] at hh; cases hh
  subst hv
  refine ⟨g, 0, rfl, hlt, ?_⟩
  intro j u hu
  have hf := flat_get he xs i x hx j u hu
  have hlt2 : i * k + j < (xs.flatMap encs).length := (List.getElem?_eq_some_iff.1 hf).1
  rw [flat_len he] at hlt2
  rw [Nat.zero_add, h'.cellAt (i * k + j) hlt2]
  exact hf
theorem cells_new (w : World) (l : List Value) (t : TypeId) : ∀ j u, l[j]? = some u → (w.alloc (.cells l.toArray t)).cell? ((⟨w.heap.size, 0, none⟩ : Addr).add j) = some u := by
 intro j u h
 have hh : (w.alloc (.cells l.toArray t)).heap[w.heap.size]? = some (.cells l.toArray t) := by rw [← World.alloc_eq]; simp
 have hc : ∀ o, (w.alloc (.cells l.toArray t)).cell? ⟨w.heap.size, o, none⟩ = l[o]? := fun o => by simp only [World.cell?, hh]; simp
 rcases Nat.eq_zero_or_pos j with rfl | hj
 ·rw [show (⟨w.heap.size, 0, none⟩ : Addr).add 0 = ⟨w.heap.size, 0, none⟩ from rfl, hc]; exact h
 ·rw [show (⟨w.heap.size, 0, none⟩ : Addr).add j = ⟨w.heap.size, j, none⟩ from by unfold Addr.add; rw [if_neg (by omega)]; simp, hc]; exact h
theorem cells3_new (w : World) (a b c : Value) (t : TypeId) : ∀ j u, [a, b, c][j]? = some u → (w.alloc (.cells #[a, b, c] t)).cell? ((⟨w.heap.size, 0, none⟩ : Addr).add j) = some u := cells_new w [a, b, c] t
def inB (lo hi n : Int) : Bool := decide (lo ≤ n ∧ n ≤ hi)
theorem inB_t {lo hi n : Int} (h : inB lo hi n = true) : lo ≤ n ∧ n ≤ hi := by simpa [inB] using h
theorem inB_mk {lo hi n : Int} (h1 : lo ≤ n) (h2 : n ≤ hi) : inB lo hi n = true := by simp [inB, h1, h2]
theorem inB_no {lo hi n : Int} (h : n < lo ∨ hi < n) : inB lo hi n = false := by simp [inB]; omega
theorem in_any (n lo hi : Int) (w : World) : Calls Tryz.prog 42 #[iv n, iv lo, iv hi] w fun e w' => e = .returned (.bool (inB lo hi n)) ∧ w = w' := by
 by_cases h1 : lo ≤ n
 ·go_enter Tryz.func42, Tryz.ntmps42
  go_wp2
  go_ret
  exact ⟨ret_bool (by unfold inB; rw [Bool.eq_iff_iff]; simp; omega), rfl⟩
 ·go_enter Tryz.func42, Tryz.ntmps42
  go_wp2
  go_ret
  exact ⟨ret_bool (by unfold inB; rw [Bool.eq_iff_iff]; simp; omega), rfl⟩
theorem within_any (n lo hi : Int) (w : World) : Calls Tryz.prog 101 #[iv n, iv lo, iv hi] w fun e w' => e = .returned (.bool (inB lo hi n)) ∧ w = w' := by
 by_cases h1 : lo ≤ n
 ·go_enter Tryz.func101, Tryz.ntmps101
  go_wp2
  go_ret
  exact ⟨ret_bool (by unfold inB; rw [Bool.eq_iff_iff]; simp; omega), rfl⟩
 ·go_enter Tryz.func101, Tryz.ntmps101
  go_wp2
  go_ret
  exact ⟨ret_bool (by unfold inB; rw [Bool.eq_iff_iff]; simp; omega), rfl⟩
theorem out1_any (n lo hi : Int) (a b : Addr) (w : World) (ha : w.cell? a = some (iv lo)) (hb : w.cell? b = some (iv hi)) :
  Calls Tryz.prog 134 #[iv n, .pointer (some a), .pointer (some b)] w fun e w' => e = .returned (.bool (!inB lo hi n)) ∧ w = w' := by
 by_cases h1 : n < lo
 ·go_enter Tryz.func134, Tryz.ntmps134
  go_wp2
  go_ret
  exact ⟨ret_bool (by unfold inB; rw [Bool.eq_iff_iff]; simp; omega), rfl⟩
 ·go_enter Tryz.func134, Tryz.ntmps134
  go_wp2
  go_ret
  exact ⟨ret_bool (by unfold inB; rw [Bool.eq_iff_iff]; simp; omega), rfl⟩
def IdxPost (b : Bool) (w : World) (e : Ending) (w' : World) : Prop := ∃ r : Int, e = .returned (iv r) ∧ decide (0 ≤ r) = b ∧ w = w'
def allIn (lo hi : Int) (xs : List Int) : Bool := xs.all (inB lo hi)
theorem allIn_snoc (lo hi : Int) (xs : List Int) (k : Nat) (x : Int) (hx : xs[k]? = some x) : allIn lo hi (xs.take (k + 1)) = (allIn lo hi (xs.take k) && inB lo hi x) := by
 unfold allIn
 obtain ⟨h, rfl⟩ := List.getElem?_eq_some_iff.1 hx
 rw [List.take_succ_eq_append_getElem h, List.all_append]; simp
theorem allIn_no (lo hi : Int) (xs : List Int) (k : Nat) (x : Int) (hx : xs[k]? = some x) (h : inB lo hi x = false) : allIn lo hi xs = false := by
 unfold allIn
 rw [List.all_eq_false]
 exact ⟨x, List.mem_of_getElem? hx, by simp [h]⟩
theorem indexFunc_any (A : Option Addr) (xs : List Int) (B cap : Nat) (lo hi : Int) (a1 a2 : Addr) (w : World) (hm : xs.length ≤ maxLen)
  (hR : Rd1 iv w B A xs) (ha : w.cell? a1 = some (iv lo)) (hb : w.cell? a2 = some (iv hi)) :
  Calls Tryz.prog 131 #[.slice A xs.length cap, .func (.func 134) #[] #[.pointer (some a1), .pointer (some a2)]] w (IdxPost (!allIn lo hi xs) w) := by
 unfold maxLen at hm
 go_enter Tryz.func131, Tryz.ntmps131
 go_wp2
 go_loop [8] (fun i => ∃ k : Nat, k ≤ xs.length ∧ i = iv k ∧ allIn lo hi (xs.take k) = true) (fun i => xs.length - (intOf i).toNat)
 case atStart => exact ⟨0, Nat.zero_le _, rfl, by simp [allIn]⟩
 case round =>
  obtain ⟨k, hk, rfl, hn⟩ := hrel
  by_cases hlt : k < xs.length
  ·obtain ⟨x, hx⟩ : ∃ x, xs[k]? = some x := ⟨_, List.getElem?_eq_getElem hlt⟩
   obtain ⟨b, off, rfl, _, hck⟩ := hR k x hx
   have Hx := Lq hx
   clear hx
   by_cases hp : inB lo hi x = true
   ·go_wp2_with (go_at_call 134; refine (out1_any _ lo hi _ _ _ ha hb).mono ?_; rintro e w' ⟨rfl, rfl⟩)
    go_round
    case rel => exact ⟨k + 1, by omega, by go_num, by rw [allIn_snoc _ _ _ _ _ Hx.out, hn, hp]; rfl⟩
    case measure => simp [intOf]; omega
   ·have hp' : inB lo hi x = false := by simpa using hp
    go_wp2_with (go_at_call 134; refine (out1_any _ lo hi _ _ _ ha hb).mono ?_; rintro e w' ⟨rfl, rfl⟩)
    go_ret
    exact ⟨k, rfl, by rw [allIn_no _ _ _ _ _ Hx.out hp']; simp, rfl⟩
  ·go_wp2
   go_ret
   refine ⟨-1, rfl, ?_, rfl⟩
   rw [List.take_of_length_le (by omega)] at hn
   rw [hn]; rfl
theorem containsFunc_any (A : Option Addr) (xs : List Int) (B cap : Nat) (lo hi : Int) (a1 a2 : Addr) (w : World) (hm : xs.length ≤ maxLen)
  (hR : Rd1 iv w B A xs) (ha : w.cell? a1 = some (iv lo)) (hb : w.cell? a2 = some (iv hi)) :
  Calls Tryz.prog 107 #[.slice A xs.length cap, .func (.func 134) #[] #[.pointer (some a1), .pointer (some a2)]] w fun e w' => e = .returned (.bool (!allIn lo hi xs)) ∧ w = w' := by
 go_enter Tryz.func107, Tryz.ntmps107
 go_wp2_with (go_at_call 131; refine (indexFunc_any _ xs B cap lo hi _ _ _ hm hR ha hb).mono ?_; rintro e w' ⟨r, rfl, hr, rfl⟩)
 go_ret
 exact ⟨by rw [← hr]; rfl, rfl⟩
theorem out_any (A : Option Addr) (xs : List Int) (B cap : Nat) (lo hi : Int) (w : World) (hm : xs.length ≤ maxLen)
  (hR : Rd1 iv w B A xs) (hB : B ≤ w.heap.size) :
  Calls Tryz.prog 116 #[iv lo, iv hi, .slice A xs.length cap] w (Rt w (.bool (!allIn lo hi xs))) := by
 have hR1 := (hR.alloc hB (.cells #[iv lo] 3)).alloc (by simp; omega) (.cells #[iv hi] 3)
 go_enter Tryz.func116, Tryz.ntmps116
 go_wp2_with (go_at_call 107; refine (containsFunc_any _ xs B cap lo hi _ _ _ hm hR1 (by go_simp) (by go_simp)).mono ?_; rintro e w' ⟨rfl, rfl⟩)
 go_ret
 exact ⟨rfl, ((Below.refl _ _).alloc (Nat.le_refl _) _).alloc (by simp) _⟩
theorem out_one (lo hi x : Int) (g : Nat) (w : World) (hc : w.cell? ⟨g, 0, none⟩ = some (iv x)) (hg : g < w.heap.size) :
  Calls Tryz.prog 116 #[iv lo, iv hi, .slice (some ⟨g, 0, none⟩) 1 1] w (Rt w (.bool (!inB lo hi x))) := by
 have hR : Rd1 iv w w.heap.size (some ⟨g, 0, none⟩) [x] := by
  intro i y hy
  match i, hy with
  | 0, hy => simp at hy; subst hy; exact ⟨g, 0, rfl, hg, hc⟩
 refine (out_any _ [x] w.heap.size 1 lo hi w (by simp [maxLen]) hR (Nat.le_refl _)).mono ?_
 rintro e w' ⟨rfl, hb⟩
 exact ⟨ret_bool (by simp [allIn]), hb⟩
theorem out_two (lo hi x y : Int) (g : Nat) (w : World) (hc : w.cell? ⟨g, 0, none⟩ = some (iv x)) (hd : w.cell? ⟨g, 1, none⟩ = some (iv y)) (hg : g < w.heap.size) :
  Calls Tryz.prog 116 #[iv lo, iv hi, .slice (some ⟨g, 0, none⟩) 2 2] w (Rt w (.bool (!(inB lo hi x && inB lo hi y)))) := by
 have hR : Rd1 iv w w.heap.size (some ⟨g, 0, none⟩) [x, y] := by
  intro i z hz
  match i, hz with
  | 0, hz => simp at hz; subst hz; exact ⟨g, 0, rfl, hg, hc⟩
  | 1, hz => simp at hz; subst hz; exact ⟨g, 0, rfl, hg, hd⟩
 refine (out_any _ [x, y] w.heap.size 2 lo hi w (by simp [maxLen]) hR (Nat.le_refl _)).mono ?_
 rintro e w' ⟨rfl, hb⟩
 exact ⟨ret_bool (by simp [allIn]), hb⟩
def rangeE (L H lo hi : Int) : Int := if inB L H lo && inB L H hi then (if hi < lo then 2 else 0) else 7
theorem rangeE_out {L H lo hi : Int} (h : (inB L H lo && inB L H hi) = false) : rangeE L H lo hi = 7 := by simp [rangeE, h]
theorem rangeE_turned {L H lo hi : Int} (h : (inB L H lo && inB L H hi) = true) (h2 : hi < lo) : rangeE L H lo hi = 2 := by simp only [rangeE, h, if_true, if_pos h2]
theorem rangeE_ok {L H lo hi : Int} (h : (inB L H lo && inB L H hi) = true) (h2 : lo ≤ hi) : rangeE L H lo hi = 0 := by
 simp only [rangeE, h, if_true]; rw [if_neg (by omega)]
theorem spanned_any (L H lo hi : Int) (w : World) :
  Calls Tryz.prog 90 #[.agg #[iv lo, iv hi], iv L, iv H] w (Rt w (iv (rangeE L H lo hi))) := by
 cases h : (inB L H lo && inB L H hi)
 ·have hf := Lq (rangeE_out h)
  go_enter Tryz.func90, Tryz.ntmps90
  go_wp2_with (go_at_call 116; refine (out_two _ _ lo hi _ _ (by go_simp) (by go_simp) (by simp)).mono ?_; rintro e w1 ⟨rfl, hb⟩; obtain ⟨hc, hfr⟩ := bcell hb)
  go_ret
  exact ⟨by rw [hf.out]; rfl, (((Below.refl _ _).alloc (Nat.le_refl _) _).alloc (by simp) _).trans (hb.mono (by simp; omega))⟩
 ·by_cases h2 : hi < lo
  ·have hf := Lq (rangeE_turned h h2)
   go_enter Tryz.func90, Tryz.ntmps90
   go_wp2_with (go_at_call 116; refine (out_two _ _ lo hi _ _ (by go_simp) (by go_simp) (by simp)).mono ?_; rintro e w1 ⟨rfl, hb⟩; obtain ⟨hc, hfr⟩ := bcell hb)
   go_ret
   exact ⟨by rw [hf.out]; rfl, (((Below.refl _ _).alloc (Nat.le_refl _) _).alloc (by simp) _).trans (hb.mono (by simp; omega))⟩
  ·have hf := Lq (rangeE_ok h (by omega))
   go_enter Tryz.func90, Tryz.ntmps90
   go_wp2_with (go_at_call 116; refine (out_two _ _ lo hi _ _ (by go_simp) (by go_simp) (by simp)).mono ?_; rintro e w1 ⟨rfl, hb⟩; obtain ⟨hc, hfr⟩ := bcell hb)
   go_ret
   exact ⟨by rw [hf.out]; rfl, (((Below.refl _ _).alloc (Nat.le_refl _) _).alloc (by simp) _).trans (hb.mono (by simp; omega))⟩
theorem spread_one (L H lo hi : Int) (g cap : Nat) (w : World) (h0 : w.cell? ⟨g, 0, none⟩ = some (iv lo)) (h1 : w.cell? ⟨g, 1, none⟩ = some (iv hi)) :
  Calls Tryz.prog 81 #[.slice (some ⟨g, 0, none⟩) 1 cap, iv L, iv H] w fun e w' => e = .returned (iv (rangeE L H lo hi)) ∧ ∃ n, w' = w.drewN n := by
 cases h : (inB L H lo && inB L H hi)
 ·have hf := Lq (rangeE_out h)
  cases hl : inB L H lo
  ·clear h
   go_enter Tryz.func81, Tryz.ntmps81
   go_wp2
   refine wp_loop_rounds 1 ?_
   rw [rounds_succ]
   go_wp2_with (go_at_call 101; refine (within_any _ _ _ _).mono ?_; rintro e w' ⟨rfl, rfl⟩)
   go_ret
   exact ⟨by rw [hf.out]; rfl, 0, rfl⟩
  ·have hh : inB L H hi = false := by rw [hl] at h; simpa using h
   clear h
   go_enter Tryz.func81, Tryz.ntmps81
   go_wp2
   refine wp_loop_rounds 1 ?_
   rw [rounds_succ]
   go_wp2_with (go_at_call 101; refine (within_any _ _ _ _).mono ?_; rintro e w' ⟨rfl, rfl⟩)
   go_ret
   exact ⟨by rw [hf.out]; rfl, 0, rfl⟩
 ·obtain ⟨hl, hh⟩ : inB L H lo = true ∧ inB L H hi = true := by simpa using h
  by_cases h2 : hi < lo
  ·have hf := Lq (rangeE_turned h h2)
   clear h
   go_enter Tryz.func81, Tryz.ntmps81
   go_wp2
   refine wp_loop_rounds 2 ?_
   rw [rounds_succ]
   go_wp2_with (go_at_call 101; refine (within_any _ _ _ _).mono ?_; rintro e w' ⟨rfl, rfl⟩)
   go_quiet (fail)
   go_wp2
   rw [rounds_succ]
   go_wp2
   go_ret
   exact ⟨by rw [hf.out]; rfl, _, rfl⟩
  ·have hf := Lq (rangeE_ok h (by omega))
   clear h
   go_enter Tryz.func81, Tryz.ntmps81
   go_wp2
   refine wp_loop_rounds 2 ?_
   rw [rounds_succ]
   go_wp2_with (go_at_call 101; refine (within_any _ _ _ _).mono ?_; rintro e w' ⟨rfl, rfl⟩)
   go_quiet (fail)
   go_wp2
   rw [rounds_succ]
   go_wp2
   go_ret
   exact ⟨by rw [hf.out]; rfl, _, rfl⟩
theorem range_any (L H lo hi : Int) (w : World) :
  Calls Tryz.prog 43 #[.agg #[iv lo, iv hi], iv L, iv H] w (Rt w (iv (rangeE L H lo hi))) := by
 go_enter Tryz.func43, Tryz.ntmps43
 go_wp2_with (go_at_call 81; refine (spread_one L H lo hi _ _ _ (by go_simp) (by go_simp)).mono ?_; rintro e w1 ⟨rfl, n, rfl⟩)
 go_ret
 exact ⟨rfl, belowD (((Below.refl _ _).alloc (Nat.le_refl _) _).alloc (by simp) _) _⟩
theorem span_any (lo hi : Int) (w : World) : Calls Tryz.prog 40 #[iv lo, iv hi] w (Rt w (.agg #[iv lo, iv hi])) := by
 go_enter Tryz.func40, Tryz.ntmps40
 go_wp2
 exact bodyPost_ret (v := .agg #[iv lo, iv hi]) (by simp [results, Tryz.results40, go_sem]) rfl ⟨rfl, (Below.refl _ _).alloc (Nat.le_refl _) _⟩
def amongI (lo hi n : Int) : Int := lo + n % (hi - lo + 1)
theorem amongI_bd {lo hi n : Int} (h : lo ≤ hi) : lo ≤ amongI lo hi n ∧ amongI lo hi n ≤ hi := by
 unfold amongI
 have h1 := Int.emod_nonneg n (show hi - lo + 1 ≠ 0 by omega)
 have h2 := Int.emod_lt_of_pos n (show 0 < hi - lo + 1 by omega)
 omega
theorem among_any (lo hi n : Int) (w : World) (h0 : 0 ≤ lo) (h1 : lo ≤ hi) (h2 : hi ≤ 1000000000) (hn : 0 ≤ n) (hn2 : n ≤ 4294967295) :
  Calls Tryz.prog 45 #[.agg #[iv lo, iv hi], iv n] w (Rt w (iv (amongI lo hi n))) := by
 have h5 := Int.emod_nonneg n (show hi - lo + 1 ≠ 0 by omega)
 have h6 := Int.emod_lt_of_pos n (show 0 < hi - lo + 1 by omega)
 have h7 : n % (hi - lo + 1) ≤ 1000000001 := by omega
 go_enter Tryz.func45, Tryz.ntmps45
 go_wp2
 go_quiet (fail)
 go_wp2
 go_ret
 exact ⟨rfl, belowD ((Below.refl _ _).alloc (Nat.le_refl _) _) _⟩
def hasB (s i : Nat) : Bool := s / 2 ^ i % 2 == 1
def manyN (s n : Nat) : Nat := ((List.range n).filter (hasB s)).length
theorem manyN_succ (s n : Nat) : manyN s (n + 1) = manyN s n + (if hasB s n = true then 1 else 0) := by
 unfold manyN
 rw [List.range_succ, List.filter_append, List.length_append]
 cases h : hasB s n <;> simp [h]
theorem manyN_le (s n : Nat) : manyN s n ≤ n := by
 unfold manyN
 exact Nat.le_trans (List.length_filter_le _ _) (by simp)
theorem bit_any (n : Nat) (w : World) (hn : n ≤ 16) : Calls Tryz.prog 9 #[iv n] w fun e w' => e = .returned (iv (2 ^ n : Nat)) ∧ w = w' := by
 go_enter Tryz.func9, Tryz.ntmps9
 go_wp2
 go_loop [3, 4] (fun x i => ∃ k : Nat, k ≤ n ∧ i = iv k ∧ x = iv (2 ^ k : Nat)) (fun _ i => n - (intOf i).toNat)
 case atStart => exact ⟨0, Nat.zero_le _, rfl, rfl⟩
 case round =>
  obtain ⟨k, hk, rfl, rfl⟩ := hrel
  have hp : (2 ^ k : Nat) ≤ 65536 := Nat.pow_le_pow_right (n := 2) (by omega) (show k ≤ 16 by omega)
  obtain ⟨P, hP⟩ : ∃ P : Nat, P = 2 ^ k := ⟨_, rfl⟩
  rw [← hP] at hp ⊢
  have HP := Lq hP
  clear hP
  by_cases hlt : k < n
  ·go_wp2
   go_round
   case rel => exact ⟨k + 1, by omega, by go_num, by rw [Nat.pow_succ, ← HP.out]; push_cast; rw [Int.mul_comm]⟩
   case measure => simp [intOf]; omega
  ·go_wp2
   go_ret
   obtain rfl : k = n := by omega
   exact ⟨by rw [HP.out]; rfl, rfl⟩
theorem has_any (s i : Nat) (w : World) (hs : s ≤ 65536) (hi : i ≤ 16) : Calls Tryz.prog 87 #[iv s, iv i] w fun e w' => e = .returned (.bool (hasB s i)) ∧ w = w' := by
 have hp : 0 < 2 ^ i := Nat.pow_pos (by omega)
 have hq : (2 ^ i : Nat) ≤ 65536 := Nat.pow_le_pow_right (n := 2) (by omega) hi
 have hb : hasB s i = (s / 2 ^ i % 2 == 1) := rfl
 obtain ⟨P, hP⟩ : ∃ P : Nat, P = 2 ^ i := ⟨_, rfl⟩
 rw [← hP] at hp hq hb
 have HP := Lq hP
 have HB := Lq hb
 clear hP hb
 have hc : Calls Tryz.prog 9 #[iv i] w fun e w' => e = .returned (iv P) ∧ w = w' := by
  rw [HP.out]; exact bit_any i w hi
 have HC := Lq hc
 clear hc
 have h5 : ((s : Int) / (P : Int)) = ((s / P : Nat) : Int) := by simp
 have h6 : (s / P : Nat) ≤ s := Nat.div_le_self _ _
 have h7 : 0 ≤ (s : Int) / (P : Int) := by rw [h5]; exact Int.natCast_nonneg _
 have h8 : (s : Int) / (P : Int) ≤ 65536 := by rw [h5]; exact Int.ofNat_le.2 (Nat.le_trans h6 hs)
 have H5 := Lq h5
 clear h5 h6
 go_enter Tryz.func87, Tryz.ntmps87
 go_wp2_with (go_at_call 9; refine HC.out.mono ?_; rintro e w' ⟨rfl, rfl⟩)
 go_ret
 refine ⟨ret_bool ?_, rfl⟩
 show ((s : Int) / (P : Int) % 2 == 1) = _
 rw [HB.out, H5.out, Bool.eq_iff_iff]
 simp
 omega
theorem many_any (s : Nat) (w : World) (hs : s ≤ 65536) : Calls Tryz.prog 121 #[iv s] w fun e w' => e = .returned (iv (manyN s 8)) ∧ w = w' := by
 go_enter Tryz.func121, Tryz.ntmps121
 go_wp2
 go_loop [3, 4] (fun x i => ∃ k : Nat, k ≤ 8 ∧ i = iv k ∧ x = iv (manyN s k)) (fun _ i => 8 - (intOf i).toNat)
 case atStart => exact ⟨0, Nat.zero_le _, rfl, rfl⟩
 case round =>
  obtain ⟨k, hk, rfl, rfl⟩ := hrel
  have hm := manyN_le s k
  by_cases hlt : k < 8
  ·have HM := Lq (manyN_succ s k)
   cases hb : hasB s k
   ·have HB := Lq hb
    go_wp2_with (go_at_call 87; refine (has_any _ _ _ hs (by omega)).mono ?_; rintro e w' ⟨rfl, rfl⟩)
    go_round
    case rel => exact ⟨k + 1, by omega, by go_num, by rw [HM.out, HB.out]; rfl⟩
    case measure => simp [intOf]; omega
   ·have HB := Lq hb
    go_wp2_with (go_at_call 87; refine (has_any _ _ _ hs (by omega)).mono ?_; rintro e w' ⟨rfl, rfl⟩)
    go_round
    case rel => exact ⟨k + 1, by omega, by go_num, by rw [HM.out, HB.out]; rfl⟩
    case measure => simp [intOf]; omega
  ·go_wp2
   go_ret
   obtain rfl : k = 8 := by omega
   exact ⟨rfl, rfl⟩
def turnI (l : List Int) (n : Nat) : Int := l.getD (n % l.length) 0
theorem turnI_bd (l : List Int) (n : Nat) (h : ∀ x ∈ l, 0 ≤ x ∧ x ≤ 4294967295) : 0 ≤ turnI l n ∧ turnI l n ≤ 4294967295 := by
 unfold turnI
 rcases Nat.eq_zero_or_pos l.length with h0 | h0
 ·have : l = [] := List.length_eq_zero_iff.1 h0
  subst this; simp
 ·have hlt := Nat.mod_lt n h0
  rw [List.getD_eq_getElem?_getD, List.getElem?_eq_getElem hlt]
  exact h _ (List.getElem_mem hlt)
abbrev uv (n : Int) : Value := .int .u32 n
theorem turn_any (A : Option Addr) (l : List Int) (B cap : Nat) (n : Nat) (w : World) (hm : l.length ≤ maxLen) (hR : Rd1 uv w B A l) (hl : ∀ x ∈ l, 0 ≤ x ∧ x ≤ 4294967295) (hn : n ≤ 1000) :
  Calls Tryz.prog 51 #[.slice A l.length cap, iv n] w fun e w' => e = .returned (iv (turnI l n)) ∧ w = w' := by
 unfold maxLen at hm
 rcases Nat.eq_zero_or_pos l.length with h0 | h0
 ·have hr : turnI l n = 0 := by
   have : l = [] := List.length_eq_zero_iff.1 h0
   subst this; simp [turnI]
  have HR := Lq hr
  clear hr
  rw [h0]
  go_enter Tryz.func51, Tryz.ntmps51
  go_wp2
  go_ret
  exact ⟨by rw [HR.out]; rfl, rfl⟩
 ·have hlt := Nat.mod_lt n h0
  obtain ⟨x, hx⟩ : ∃ x, l[n % l.length]? = some x := ⟨_, List.getElem?_eq_getElem hlt⟩
  obtain ⟨b, off, rfl, _, hc⟩ := hR _ x hx
  have hb := hl x (List.mem_of_getElem? hx)
  obtain ⟨hb1, hb2⟩ := hb
  have hr : turnI l n = x := by simp [turnI, hx]
  have HR := Lq hr
  have HX := Lq hx
  clear hr hx hl
  have hne : ((l.length : Int) == 0) = false := beq_eq_false_iff_ne.2 (by omega)
  go_enter Tryz.func51, Tryz.ntmps51
  go_wp2
  go_ret
  exact ⟨by rw [HR.out]; rfl, rfl⟩
def byteAt (s : ByteArray) (i : Nat) : Nat := if h : i < s.size then (s[i]'h).toNat else 0
def okAt (i c : Nat) : Bool := (decide (97 ≤ c) && decide (c ≤ 122)) || ((decide (48 ≤ c) && decide (c ≤ 57)) && i != 0)
def okTo (s : ByteArray) (n : Nat) : Bool := (List.range n).all fun i => okAt i (byteAt s i)
def nameB (s : ByteArray) : Bool := okTo s s.size && decide (1 ≤ s.size) && decide (s.size ≤ 16)
theorem okTo_succ (s : ByteArray) (n : Nat) : okTo s (n + 1) = (okTo s n && okAt n (byteAt s n)) := by
 unfold okTo
 rw [List.range_succ, List.all_append]
 simp
theorem okTo_no {s : ByteArray} {n m : Nat} (h : okAt n (byteAt s n) = false) (hn : n < m) : okTo s m = false := by
 unfold okTo
 rw [List.all_eq_false]
 exact ⟨n, by simpa using hn, by simp [h]⟩
theorem nameB_no {s : ByteArray} {n : Nat} (h : okAt n (byteAt s n) = false) (hn : n < s.size) : nameB s = false := by
 unfold nameB; rw [okTo_no h hn]; rfl
theorem okAt_zero {s : ByteArray} {pos c : Nat} (h : pos = 0) (hb : byteAt s pos = c) (hc : c < 97) : okAt pos (byteAt s pos) = false := by
 rw [hb, h]; simp [okAt]; omega
theorem toList_nil {s : ByteArray} (h : s.toList = []) : s.size = 0 := by
 rw [ByteArray.toList_eq] at h
 have : s.data.toList.length = 0 := by rw [h]; rfl
 simpa using this
theorem toList_not_nil {s : ByteArray} (h : ¬ s.toList = []) : 1 ≤ s.size := by
 rw [ByteArray.toList_eq] at h
 have : s.data.toList.length ≠ 0 := fun e => h (List.length_eq_zero_iff.1 e)
 have h2 : s.data.toList.length = s.size := by simp
 omega
theorem name_any (s : ByteArray) (w : World) (hs : s.size ≤ maxLen) :
  Calls Tryz.prog 97 #[.string s] w (Rt w (.bool (nameB s))) := by
 unfold maxLen at hs
 go_enter Tryz.func97, Tryz.ntmps97
 go_wp2
 go_loopw [3] (fun _ w' => ∃ pos : Nat, w' = w.iter s pos ∧ pos ≤ s.size ∧ okTo s pos = true) (fun _ w' => s.size - w'.iterPos w.heap.size)
 case atStart => exact ⟨0, rfl, Nat.zero_le _, rfl⟩
 case round =>
  obtain ⟨pos, rfl, hp, ho⟩ := hrel
  have HO := Lq ho
  clear ho
  by_cases hlt : pos < s.size
  ·by_cases ha : (s[pos]'hlt).toNat < 128
   ·have hnx : ∀ ty, (Instr.next (pT w.heap.size 0) true ty).run Tryz.prog (w.iter s pos) = _ := fun ty => run_next_ascii w s pos ty hlt ha
    obtain ⟨c, hc⟩ : ∃ c : Nat, (s[pos]'hlt).toNat = c := ⟨_, rfl⟩
    rw [hc] at ha hnx
    have hb : byteAt s pos = c := by simp [byteAt, hlt, hc]
    have HB := Lq hb
    clear hb hc
    by_cases c1 : c < 48
    ·have c2 : c < 97 := by omega
     go_wp2
     go_ret
     exact ⟨ret_bool (nameB_no (n := pos) (by rw [HB.out]; simp [okAt]; omega) hlt).symm, (Below.refl _ _).alloc (Nat.le_refl _) _⟩
    by_cases c2 : c ≤ 57
    ·have c3 : c < 97 := by omega
     have c4 : 48 ≤ c := by omega
     by_cases c5 : pos = 0
     ·have c6 : ((pos : Int) == 0) = true := beq_iff_eq.2 (by omega)
      have C5 := Lq c5
      clear c5
      go_wp2
      go_ret
      exact ⟨ret_bool (nameB_no (n := pos) (okAt_zero C5.out HB.out c3) hlt).symm, (Below.refl _ _).alloc (Nat.le_refl _) _⟩
     ·have c6 : ((pos : Int) == 0) = false := beq_eq_false_iff_ne.2 (by omega)
      have C5 := Lq c5
      clear c5
      go_wp2
      go_roundw
      case rel => exact ⟨pos + 1, rfl, by omega, by rw [okTo_succ, HO.out, HB.out]; have := C5.out; simp [okAt]; omega⟩
      case measure => simp; omega
    by_cases c3 : c < 97
    ·have c4 : 57 < c := by omega
     have c5 : 48 ≤ c := by omega
     go_wp2
     go_ret
     exact ⟨ret_bool (nameB_no (n := pos) (by rw [HB.out]; simp [okAt]; omega) hlt).symm, (Below.refl _ _).alloc (Nat.le_refl _) _⟩
    have c4 : 57 < c := by omega
    have c5 : 48 ≤ c := by omega
    have c6 : 97 ≤ c := by omega
    by_cases c7 : c ≤ 122
    ·go_wp2
     go_roundw
     case rel => exact ⟨pos + 1, rfl, by omega, by rw [okTo_succ, HO.out, HB.out]; simp [okAt]; omega⟩
     case measure => simp; omega
    ·have c8 : decide ((c : Int) ≤ 122) = false := by simp; omega
     go_wp2
     go_ret
     exact ⟨ret_bool (nameB_no (n := pos) (by rw [HB.out]; simp [okAt]; omega) hlt).symm, (Below.refl _ _).alloc (Nat.le_refl _) _⟩
   ·have hnx : ∀ ty, (Instr.next (pT w.heap.size 0) true ty).run Tryz.prog (w.iter s pos) = _ := fun ty => run_next_any w s pos ty hlt
    obtain ⟨h1, h2⟩ := decode_high s pos hlt (by omega)
    obtain ⟨r, hr⟩ : ∃ r : Nat, (Utf8.decode s pos).1 = r := ⟨_, rfl⟩
    obtain ⟨d, hd⟩ : ∃ d : Nat, (Utf8.decode s pos).2 = d := ⟨_, rfl⟩
    rw [hr] at h1 hnx
    rw [hd] at h2 hnx
    have hb : 128 ≤ byteAt s pos := by simp only [byteAt, hlt, dif_pos]; omega
    clear hr hd ha
    have h3 : 97 ≤ r := by omega
    have h4 : decide ((r : Int) ≤ 122) = false := by simp; omega
    have h5 : 48 ≤ r := by omega
    have h6 : decide ((r : Int) ≤ 57) = false := by simp; omega
    go_wp2
    go_ret
    exact ⟨ret_bool (nameB_no (n := pos) (by simp [okAt]; omega) hlt).symm, (Below.refl _ _).alloc (Nat.le_refl _) _⟩
  ·have hnx : ∀ ty, (Instr.next (pT w.heap.size 0) true ty).run Tryz.prog (w.iter s pos) = _ := fun ty => run_next_end w s pos ty hlt
   obtain rfl : pos = s.size := by omega
   go_wp2
   ·have hz : s.toList = [] := by assumption
    go_ret
    exact ⟨ret_bool (by unfold nameB; rw [toList_nil hz]; simp), (Below.refl _ _).alloc (Nat.le_refl _) _⟩
   ·have hz : ¬ s.toList = [] := by assumption
    go_ret
    refine ⟨ret_bool ?_, (Below.refl _ _).alloc (Nat.le_refl _) _⟩
    show (!s.toList.isEmpty && decide ((s.size : Int) ≤ 16)) = nameB s
    have h1 : s.toList.isEmpty = false := by simpa using hz
    have h2 := toList_not_nil hz
    unfold nameB
    rw [h1, HO.out, Bool.eq_iff_iff]
    simp
    omega
theorem okAt_t {i c : Nat} (hi : i ≠ 0) (h : (97 ≤ c ∧ c ≤ 122) ∨ (48 ≤ c ∧ c ≤ 57)) : okAt i c = true := by
 simp [okAt, hi]; omega
theorem okAt_f {i c : Nat} (h : ¬ ((97 ≤ c ∧ c ≤ 122) ∨ (48 ≤ c ∧ c ≤ 57))) : okAt i c = false := by
 simp [okAt]; omega
theorem refName_any (s : ByteArray) (w : World) (hs : s.size ≤ maxLen) :
  Calls Tryz.prog 64 #[.string s] w (Rt w (.bool (nameB s))) := by
 unfold maxLen at hs
 by_cases hb : 1 ≤ s.size ∧ s.size ≤ 16
 ·obtain ⟨hb1, hb2⟩ := hb
  have hin : inB 1 16 (s.size : Int) = true := inB_mk (by omega) (by omega)
  obtain ⟨c, hc⟩ : ∃ c : Nat, (s[0]'(by omega)).toNat = c := ⟨_, rfl⟩
  have hb0 : byteAt s 0 = c := by rw [← hc]; simp only [byteAt]; rw [dif_pos (by omega)]
  have HB0 := Lq hb0
  clear hb0
  have fin0 : okAt 0 c = false → nameB s = false := fun h => nameB_no (n := 0) (by rw [HB0.out]; exact h) (by omega)
  have FIN0 := Lq fin0
  clear fin0
  by_cases c1 : c < 97
  ·go_enter Tryz.func64, Tryz.ntmps64
   go_wp2_with (go_at_call 101; refine (within_any _ _ _ _).mono ?_; rintro e w' ⟨rfl, rfl⟩)
   go_ret
   exact ⟨ret_bool (FIN0.out (by simp [okAt]; omega)).symm, Below.refl _ _⟩
  by_cases c2 : 122 < c
  ·have c3 : 97 ≤ c := by omega
   go_enter Tryz.func64, Tryz.ntmps64
   go_wp2_with (go_at_call 101; refine (within_any _ _ _ _).mono ?_; rintro e w' ⟨rfl, rfl⟩)
   go_ret
   exact ⟨ret_bool (FIN0.out (by simp [okAt]; omega)).symm, Below.refl _ _⟩
  have c3 : 97 ≤ c := by omega
  have c4 : c ≤ 122 := by omega
  have h1 : okTo s 1 = true := by rw [okTo_succ, HB0.out]; simp [okTo, okAt]; omega
  have H1 := Lq h1
  clear h1
  go_enter Tryz.func64, Tryz.ntmps64
  go_wp2_with (go_at_call 101; refine (within_any _ _ _ _).mono ?_; rintro e w' ⟨rfl, rfl⟩)
  go_loopw [3] (fun i w' => ∃ k n : Nat, w' = w.drewN n ∧ 1 ≤ k ∧ k ≤ s.size ∧ i = iv k ∧ okTo s k = true) (fun i _ => s.size - (intOf i).toNat)
  case atStart => exact ⟨1, 0, rfl, by omega, by omega, rfl, H1.out⟩
  case round =>
   obtain ⟨k, n, rfl, hk1, hk, rfl, ho⟩ := hrel
   have HO := Lq ho
   clear ho hc
   by_cases hlt : k < s.size
   ·obtain ⟨d, hd⟩ : ∃ d : Nat, (s[k]'hlt).toNat = d := ⟨_, rfl⟩
    have hb : byteAt s k = d := by rw [← hd]; simp only [byteAt]; rw [dif_pos hlt]
    have HB := Lq hb
    clear hb
    by_cases d1 : d < 48
    ·skip
     have e1 : decide ((97 : Int) ≤ (d : Int)) = false := by simp; omega
     have e2 : decide ((d : Int) ≤ 122) = true := by simp; omega
     have e3 : decide ((48 : Int) ≤ (d : Int)) = false := by simp; omega
     have e4 : decide ((d : Int) ≤ 57) = true := by simp; omega
     go_wp2
     go_quiet (fail)
     go_wp2
     go_ret
     exact ⟨ret_bool (nameB_no (n := k) (by rw [HB.out]; exact okAt_f (by omega)) hlt).symm, belowD (Below.refl _ _) _⟩
    by_cases d2 : d ≤ 57
    ·skip
     have e1 : decide ((97 : Int) ≤ (d : Int)) = false := by simp; omega
     have e2 : decide ((d : Int) ≤ 122) = true := by simp; omega
     have e3 : decide ((48 : Int) ≤ (d : Int)) = true := by simp; omega
     have e4 : decide ((d : Int) ≤ 57) = true := by simp; omega
     go_wp2
     go_quiet (fail)
     go_wp2
     go_roundw
     case rel => exact ⟨k + 1, _, rfl, by omega, by omega, by go_num, by rw [okTo_succ, HO.out, HB.out, okAt_t (by omega) (by omega)]; rfl⟩
     case measure => simp [intOf]; omega
    by_cases d3 : d < 97
    ·skip
     have e1 : decide ((97 : Int) ≤ (d : Int)) = false := by simp; omega
     have e2 : decide ((d : Int) ≤ 122) = true := by simp; omega
     have e3 : decide ((48 : Int) ≤ (d : Int)) = true := by simp; omega
     have e4 : decide ((d : Int) ≤ 57) = false := by simp; omega
     go_wp2
     go_quiet (fail)
     go_wp2
     go_ret
     exact ⟨ret_bool (nameB_no (n := k) (by rw [HB.out]; exact okAt_f (by omega)) hlt).symm, belowD (Below.refl _ _) _⟩
    by_cases d4 : d ≤ 122
    ·skip
     have e1 : decide ((97 : Int) ≤ (d : Int)) = true := by simp; omega
     have e2 : decide ((d : Int) ≤ 122) = true := by simp; omega
     have e3 : decide ((48 : Int) ≤ (d : Int)) = true := by simp; omega
     have e4 : decide ((d : Int) ≤ 57) = false := by simp; omega
     go_wp2
     go_quiet (fail)
     go_wp2
     go_roundw
     case rel => exact ⟨k + 1, _, rfl, by omega, by omega, by go_num, by rw [okTo_succ, HO.out, HB.out, okAt_t (by omega) (by omega)]; rfl⟩
     case measure => simp [intOf]; omega
    ·skip
     have e1 : decide ((97 : Int) ≤ (d : Int)) = true := by simp; omega
     have e2 : decide ((d : Int) ≤ 122) = false := by simp; omega
     have e3 : decide ((48 : Int) ≤ (d : Int)) = true := by simp; omega
     have e4 : decide ((d : Int) ≤ 57) = false := by simp; omega
     go_wp2
     go_quiet (fail)
     go_wp2
     go_ret
     exact ⟨ret_bool (nameB_no (n := k) (by rw [HB.out]; exact okAt_f (by omega)) hlt).symm, belowD (Below.refl _ _) _⟩
   ·go_wp2
    go_ret
    obtain rfl : k = s.size := by omega
    exact ⟨ret_bool (by unfold nameB; rw [HO.out]; simp; omega), belowD (Below.refl _ _) _⟩
 ·have hin : inB 1 16 (s.size : Int) = false := inB_no (by omega)
  have HB := Lq hb
  clear hb
  go_enter Tryz.func64, Tryz.ntmps64
  go_wp2_with (go_at_call 101; refine (within_any _ _ _ _).mono ?_; rintro e w' ⟨rfl, rfl⟩)
  go_ret
  exact ⟨ret_bool (by have := HB.out; unfold nameB; rw [Bool.eq_iff_iff]; simp; omega), Below.refl _ _⟩
def oneOf (l : List ByteArray) (s : ByteArray) : Bool := l.any fun x => x.toList == s.toList
theorem oneOf_snoc (l : List ByteArray) (s : ByteArray) (k : Nat) (x : ByteArray) (hx : l[k]? = some x) : oneOf (l.take (k + 1)) s = (oneOf (l.take k) s || x.toList == s.toList) := by
 unfold oneOf
 obtain ⟨h, rfl⟩ := List.getElem?_eq_some_iff.1 hx
 rw [List.take_succ_eq_append_getElem h, List.any_append]; simp
theorem oneOf_yes {l : List ByteArray} {s : ByteArray} {k : Nat} {x : ByteArray} (hx : l[k]? = some x) (h : (x.toList == s.toList) = true) : oneOf l s = true := by
 unfold oneOf
 rw [List.any_eq_true]
 exact ⟨x, List.mem_of_getElem? hx, h⟩
theorem place_any (A : Option Addr) (l : List ByteArray) (B cap : Nat) (s : ByteArray) (w : World) (hm : l.length ≤ maxLen) (hR : Rd1 .string w B A l) :
  Calls Tryz.prog 65 #[.slice A l.length cap, .string s] w (IdxPost (oneOf l s) w) := by
 unfold maxLen at hm
 go_enter Tryz.func65, Tryz.ntmps65
 go_wp2
 go_loop [5] (fun i => ∃ k : Nat, k ≤ l.length ∧ i = iv k ∧ oneOf (l.take k) s = false) (fun i => l.length - (intOf i).toNat)
 case atStart => exact ⟨0, Nat.zero_le _, rfl, by simp [oneOf]⟩
 case round =>
  obtain ⟨k, hk, rfl, hn⟩ := hrel
  have HN := Lq hn
  clear hn
  by_cases hlt : k < l.length
  ·obtain ⟨x, hx⟩ : ∃ x, l[k]? = some x := ⟨_, List.getElem?_eq_getElem hlt⟩
   obtain ⟨b, off, rfl, _, hck⟩ := hR k x hx
   have HX := Lq hx
   clear hx
   cases hp : (x.toList == s.toList)
   ·have HP := Lq hp
    go_wp2
    go_round
    case rel => exact ⟨k + 1, by omega, by go_num, by rw [oneOf_snoc _ _ _ _ HX.out, HN.out, HP.out]; rfl⟩
    case measure => simp [intOf]; omega
   ·have HP := Lq hp
    go_wp2
    go_ret
    exact ⟨k, rfl, by rw [oneOf_yes HX.out HP.out]; simp, rfl⟩
  ·go_wp2
   go_ret
   refine ⟨-1, rfl, ?_, rfl⟩
   have hn := HN.out
   rw [List.take_of_length_le (by omega)] at hn
   rw [hn]; rfl
def freshE (l : List ByteArray) (s : ByteArray) : Int := if nameB s then (if oneOf l s then 5 else 0) else 6
theorem fresh_any (A : Option Addr) (l : List ByteArray) (B cap : Nat) (s : ByteArray) (w : World) (hs : s.size ≤ maxLen) (hm : l.length ≤ maxLen) (hR : Rd1 .string w B A l) (hB : B ≤ w.heap.size) :
  Calls Tryz.prog 19 #[.string s, .slice A l.length cap] w (Rt w (iv (freshE l s))) := by
 cases hn : nameB s
 ·have hf : freshE l s = 6 := by simp [freshE, hn]
  have HF := Lq hf
  clear hf
  go_enter Tryz.func19, Tryz.ntmps19
  go_wp2_with (go_at_call 64; refine (refName_any _ _ hs).mono ?_; rintro e w1 ⟨rfl, hb⟩)
  go_ret
  exact ⟨by rw [HF.out]; rfl, hb⟩
 ·cases ho : oneOf l s
  ·have hf : freshE l s = 0 := by simp [freshE, hn, ho]
   have HF := Lq hf
   clear hf
   go_enter Tryz.func19, Tryz.ntmps19
   go_wp2_with (first | (go_at_call 64; refine (refName_any _ _ hs).mono ?_; rintro e w1 ⟨rfl, hb⟩; have hR1 := hR.below hb hB) | (go_at_call 65; refine (place_any _ _ _ _ _ _ hm (by assumption)).mono ?_; rintro e w' ⟨r, rfl, hr, rfl⟩))
   go_ret
   exact ⟨by rw [HF.out]; rfl, hb⟩
  ·have hf : freshE l s = 5 := by simp [freshE, hn, ho]
   have HF := Lq hf
   clear hf
   go_enter Tryz.func19, Tryz.ntmps19
   go_wp2_with (first | (go_at_call 64; refine (refName_any _ _ hs).mono ?_; rintro e w1 ⟨rfl, hb⟩; have hR1 := hR.below hb hB) | (go_at_call 65; refine (place_any _ _ _ _ _ _ hm (by assumption)).mono ?_; rintro e w' ⟨r, rfl, hr, rfl⟩))
   go_ret
   exact ⟨by rw [HF.out]; rfl, hb⟩
end Go.Proofs.YtmhjhbchokbonaaGreat
