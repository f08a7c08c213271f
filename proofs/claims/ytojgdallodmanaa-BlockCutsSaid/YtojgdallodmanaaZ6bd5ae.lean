/- Weights that are raised one after the other, as little as weighings ask for: no truth is lost. The plain law of the reference's greedy way. No program is named here. The reference's greedy way, step by step: what it fills and what it raises. The plain law. No program is named here. The reference's Most: weights in which a set is as heavy as it can be. The plain law. No program is named here. -/
import Derived.Test.YtojgdallodmanaaZ382934
namespace Go.Proofs.Ytojgdallodmanaa

def upd (w : Nat → Int) (i : Nat) (v : Int) : Nat → Int := fun k => if k = i then v else w k
theorem upd_self (w : Nat → Int) (i : Nat) (v : Int) : upd w i v i = v := by simp [upd]
theorem upd_ne {w : Nat → Int} {i k : Nat} {v : Int} (h : k ≠ i) : upd w i v k = w k := by simp [upd, h]
theorem sumTo_upd (w : Nat → Int) (p : Nat) (v : Int) (P : Nat → Bool) : ∀ k, sumTo (upd w p v) P k = sumTo w P k + if p < k ∧ P p = true then v - w p else 0 := by
  intro k
  induction k with
  | zero => simp [sumTo]
  | succ k ih =>
    simp only [sumTo, ih]
    by_cases hk : k = p
    · subst hk
      rw [upd_self]
      cases hP : P k <;> simp
      omega
    · rw [upd_ne hk]
      by_cases h1 : p < k
      · by_cases h2 : P p = true
        · rw [if_pos ⟨h1, h2⟩, if_pos (c := p < k + 1 ∧ P p = true) ⟨by omega, h2⟩]; omega
        · rw [if_neg (by simp [h2]), if_neg (c := p < k + 1 ∧ P p = true) (by simp [h2])]; omega
      · rw [if_neg (by omega), if_neg (c := p < k + 1 ∧ P p = true) (by omega)]; omega
theorem sumS_upd (w : Nat → Int) {p : Nat} (hp : p < 8) (v : Int) (s : Nat) : sumS (upd w p v) s = sumS w s + if s.testBit p = true then v - w p else 0 := by
  unfold sumS sumP
  rw [sumTo_upd]
  simp [hp]
theorem sumTo_le {w w' : Nat → Int} {P : Nat → Bool} : ∀ k, (∀ i, i < k → P i = true → w i ≤ w' i) → sumTo w P k ≤ sumTo w' P k := by
  intro k
  induction k with
  | zero => intro _; simp [sumTo]
  | succ k ih =>
    intro h
    have := ih (fun i hi => h i (by omega))
    have h2 := h k (by omega)
    simp only [sumTo]
    cases hk : P k with
    | true => have := h2 hk; simp only [if_true]; omega
    | false => simp only [Bool.false_eq_true, if_false]; omega
theorem sumS_le {w w' : Nat → Int} {s : Nat} (h : ∀ i, i < 8 → s.testBit i = true → w i ≤ w' i) : sumS w s ≤ sumS w' s := sumTo_le 8 h
theorem sumTo_find {w w' : Nat → Int} {P : Nat → Bool} : ∀ k, sumTo w P k < sumTo w' P k → ∃ i, i < k ∧ P i = true ∧ w i < w' i := by
  intro k
  induction k with
  | zero => intro h; simp [sumTo] at h
  | succ k ih =>
    intro h
    simp only [sumTo] at h
    by_cases h1 : sumTo w P k < sumTo w' P k
    · obtain ⟨i, a, b, c⟩ := ih h1
      exact ⟨i, by omega, b, c⟩
    · cases hk : P k with
      | true => rw [hk] at h; simp only [if_true] at h; exact ⟨k, by omega, hk, by omega⟩
      | false => rw [hk] at h; simp only [Bool.false_eq_true, if_false] at h; omega
theorem sumS_find {w w' : Nat → Int} {s : Nat} (h : sumS w s < sumS w' s) : ∃ i, i < 8 ∧ s.testBit i = true ∧ w i < w' i := sumTo_find 8 h
theorem bit_lt {s n p : Nat} (hs : s < 2 ^ n) (hb : s.testBit p = true) : p < n := by
  rcases Nat.lt_or_ge p n with h | h
  · exact h
  · rw [Nat.testBit_lt_two_pow (Nat.lt_of_lt_of_le hs (Nat.pow_le_pow_right (by decide) h))] at hb; cases hb

/-- One of a list's members that are so, of which a number is least. -/
theorem least_mem {α : Type} (f : α → Nat) (P : α → Prop) : ∀ l : List α, (∃ x ∈ l, P x) → ∃ x ∈ l, P x ∧ ∀ y ∈ l, P y → f x ≤ f y := by
  classical
  intro l
  induction l with
  | nil => rintro ⟨x, hx, _⟩; cases hx
  | cons a l ih =>
    rintro ⟨x, hx, hPx⟩
    by_cases hl : ∃ x ∈ l, P x
    · obtain ⟨y, hy, hPy, hmin⟩ := ih hl
      by_cases ha : P a
      · by_cases hle : f a ≤ f y
        · refine ⟨a, by simp, ha, fun z hz hPz => ?_⟩
          rcases List.mem_cons.1 hz with rfl | hz
          · exact Nat.le_refl _
          · exact Nat.le_trans hle (hmin z hz hPz)
        · refine ⟨y, List.mem_cons_of_mem _ hy, hPy, fun z hz hPz => ?_⟩
          rcases List.mem_cons.1 hz with rfl | hz
          · omega
          · exact hmin z hz hPz
      · refine ⟨y, List.mem_cons_of_mem _ hy, hPy, fun z hz hPz => ?_⟩
        rcases List.mem_cons.1 hz with rfl | hz
        · exact absurd hPz ha
        · exact hmin z hz hPz
    · rcases List.mem_cons.1 hx with rfl | hx
      · refine ⟨x, by simp, hPx, fun z hz hPz => ?_⟩
        rcases List.mem_cons.1 hz with rfl | hz
        · exact Nat.le_refl _
        · exact absurd ⟨z, hz, hPz⟩ hl
      · exact absurd ⟨x, hx, hPx⟩ hl

structure Lw (h : Hul) (l : List Wgh) : Prop where
  n8 : h.ps.length ≤ 8
  lam : ∀ x ∈ l, ∀ y ∈ l, LamW x y
  lt : ∀ x ∈ l, x.set.toNat < 2 ^ h.ps.length
def Box (h : Hul) (w : Nat → Int) : Prop := ∀ (i : Nat) (p : Prt), h.ps[i]? = some p → p.lo ≤ w i ∧ w i ≤ p.hi
def loOf (h : Hul) (i : Nat) : Int := (h.ps[i]?.map Prt.lo).getD 0
def hiOf (h : Hul) (i : Nat) : Int := (h.ps[i]?.map Prt.hi).getD 0
theorem box_iff {h : Hul} {w : Nat → Int} : Box h w ↔ ∀ i, i < h.ps.length → loOf h i ≤ w i ∧ w i ≤ hiOf h i := by
  constructor
  · intro hb i hi
    have hg := List.getElem?_eq_getElem hi
    have := hb i _ hg
    simpa [loOf, hiOf, hg] using this
  · intro hb i p hip
    have := hb i (List.getElem?_eq_some_iff.1 hip).1
    simpa [loOf, hiOf, hip] using this
theorem Lw.swap {h : Hul} {l : List Wgh} (H : Lw h l) {t w : Nat → Int} (ht : TruthP h l t) (hw : ∀ i, i < h.ps.length → w i ≤ t i) (hlo : ∀ i, i < h.ps.length → loOf h i ≤ w i)
    {p q : Nat} (hp : p < h.ps.length) (hq : q < h.ps.length) (hpt : t p = w p) (hqt : w q < t q) (hph : w p + 1 ≤ hiOf h p)
    (hT : ∀ y ∈ l, y.set.toNat.testBit p = true → y.set.toNat.testBit q = false → sumS t y.set.toNat + 1 ≤ y.hi)
    (hL : ∀ y ∈ l, y.set.toNat.testBit q = true → y.set.toNat.testBit p = false → y.lo ≤ sumS w y.set.toNat) :
    TruthP h l (upd (upd t p (t p + 1)) q (t q - 1)) ∧ (∀ i, i < h.ps.length → upd w p (w p + 1) i ≤ upd (upd t p (t p + 1)) q (t q - 1) i) := by
  have hpq : q ≠ p := fun hc => by rw [hc] at hqt; omega
  have hn := H.n8
  have hb : Box h t := ht.1
  rw [box_iff] at hb
  refine ⟨⟨box_iff.2 fun i hi => ?_, fun y hy => ?_⟩, fun i hi => ?_⟩
  · have h1 := hb i hi
    by_cases hiq : i = q
    · subst hiq
      rw [upd_self]
      have := hlo i hi
      omega
    · rw [upd_ne hiq]
      by_cases hip : i = p
      · subst hip
        rw [upd_self]
        omega
      · rw [upd_ne hip]; exact h1
  · have h1 := ht.2 y hy
    rw [sumS_upd _ (by omega), sumS_upd _ (by omega), upd_ne hpq]
    cases hyp : y.set.toNat.testBit p with
    | true =>
      cases hyq : y.set.toNat.testBit q with
      | true => simp only [if_true]; omega
      | false =>
        have := hT y hy hyp hyq
        simp only [if_true, Bool.false_eq_true, if_false]
        omega
    | false =>
      cases hyq : y.set.toNat.testBit q with
      | true =>
        have h2 := hL y hy hyq hyp
        have h3 : sumS w y.set.toNat + 1 ≤ sumS t y.set.toNat := by
          have h4 : sumS (upd w q (w q + 1)) y.set.toNat ≤ sumS t y.set.toNat := sumS_le fun i _ hbi => by
            by_cases hiq : i = q
            · subst hiq; rw [upd_self]; omega
            · rw [upd_ne hiq]; exact hw i (bit_lt (H.lt y hy) hbi)
          rw [sumS_upd _ (by omega), hyq] at h4
          simp only [if_true] at h4
          omega
        simp only [if_true, Bool.false_eq_true, if_false]
        omega
      | false => simp only [Bool.false_eq_true, if_false]; omega
  · by_cases hiq : i = q
    · subst hiq
      rw [upd_self, upd_ne hpq]
      omega
    · rw [upd_ne hiq]
      by_cases hip : i = p
      · subst hip; rw [upd_self, upd_self]; omega
      · rw [upd_ne hip, upd_ne hip]; exact hw i hi

/-- A part cannot be heavier. -/
def Full (h : Hul) (l : List Wgh) (w : Nat → Int) (q : Nat) : Prop := hiOf h q ≤ w q ∨ ∃ y ∈ l, y.set.toNat.testBit q = true ∧ y.hi ≤ sumS w y.set.toNat
theorem Lw.full_eq {h : Hul} {l : List Wgh} (H : Lw h l) {t w : Nat → Int} (ht : TruthP h l t) (hw : ∀ i, i < h.ps.length → w i ≤ t i) {q : Nat} (hq : q < h.ps.length) (hf : Full h l w q) : t q = w q := by
  have h1 := hw q hq
  rcases hf with hf | ⟨y, hy, hyq, hyh⟩
  · have hb : Box h t := ht.1
    rw [box_iff] at hb
    have := hb q hq
    omega
  · by_cases hlt : w q < t q
    · have hn := H.n8
      have h4 : sumS (upd w q (w q + 1)) y.set.toNat ≤ sumS t y.set.toNat := sumS_le fun i _ hbi => by
        by_cases hiq : i = q
        · subst hiq; rw [upd_self]; omega
        · rw [upd_ne hiq]; exact hw i (bit_lt (H.lt y hy) hbi)
      rw [sumS_upd _ (by omega), hyq] at h4
      simp only [if_true] at h4
      have := (ht.2 y hy).2
      omega
    · omega
theorem Full.mono {h : Hul} {l : List Wgh} {w w' : Nat → Int} {q : Nat} (hf : Full h l w q) (hle : ∀ i, w i ≤ w' i) : Full h l w' q := by
  rcases hf with hf | ⟨y, hy, hyq, hyh⟩
  · exact .inl (Int.le_trans hf (hle q))
  · exact .inr ⟨y, hy, hyq, Int.le_trans hyh (sumS_le fun i _ _ => hle i)⟩

/-- Each truth has one that is as good and in which nothing is lighter than w. -/
def Keeps (h : Hul) (l : List Wgh) (Q : (Nat → Int) → (Nat → Int) → Prop) (w : Nat → Int) : Prop := ∀ t, TruthP h l t → ∃ t', TruthP h l t' ∧ (∀ i, i < h.ps.length → w i ≤ t' i) ∧ Q t t'

/-- Two sets of which both have a part: one lies in the other. -/
theorem LamW.chain {x y : Wgh} (h : LamW x y) {p : Nat} (hp8 : p < 8) (hx : x.set.toNat.testBit p = true) (hy : y.set.toNat.testBit p = true) : subP x.set.toNat y.set.toNat ∨ subP y.set.toNat x.set.toNat := by
  rcases h with h | h
  · exact absurd ⟨hx, hy⟩ (h p hp8)
  · exact h

/-- The smallest of the sets that hold a part back, and another part of it that is heavier in the truth. -/
theorem Lw.partner {h : Hul} {l : List Wgh} (H : Lw h l) {t w : Nat → Int} {p : Nat} (hp : p < h.ps.length)
    {S : Wgh} (hS : S ∈ l) (hSp : S.set.toNat.testBit p = true) (hb : sumS w S.set.toNat < sumS t S.set.toNat)
    (hr : ∀ y ∈ l, y.set.toNat.testBit p = true → sumS w y.set.toNat + 1 ≤ y.hi) :
    ∃ q, q < h.ps.length ∧ S.set.toNat.testBit q = true ∧ w q < t q ∧ (∀ y ∈ l, y.set.toNat.testBit p = true → y.set.toNat.testBit q = false → sumS t y.set.toNat + 1 ≤ y.hi) ∧
      ∀ y ∈ l, y.set.toNat.testBit q = true → y.set.toNat.testBit p = false → onesN y.set.toNat < onesN S.set.toNat := by
  have hn := H.n8
  have hp8 : p < 8 := by omega
  obtain ⟨D, hD, ⟨hDp, hDb⟩, hDm⟩ := least_mem (fun y : Wgh => onesN y.set.toNat) (fun y => y.set.toNat.testBit p = true ∧ sumS w y.set.toNat < sumS t y.set.toNat ∧ (y.hi ≤ sumS t y.set.toNat ∨ y = S)) l ⟨S, hS, hSp, hb, .inr rfl⟩
  obtain ⟨q, hq8, hqD, hqt⟩ := sumS_find hDb.1
  have hDS : subP D.set.toNat S.set.toNat := by
    rcases (H.lam D hD S hS).chain hp8 hDp hSp with hc | hc
    · exact hc
    · exact ones_eq hc (hDm S hS ⟨hSp, hb, .inr rfl⟩)
  refine ⟨q, bit_lt (H.lt D hD) hqD, hDS q hq8 hqD, hqt, fun y hy hyp hyq => ?_, fun y hy hyq hyp => ?_⟩
  · rcases Int.lt_or_le (sumS t y.set.toNat) y.hi with hlt | hge
    · omega
    · have h1 := hr y hy hyp
      have h2 := hDm y hy ⟨hyp, by omega, .inl hge⟩
      rcases (H.lam D hD y hy).chain hp8 hDp hyp with hc | hc
      · rw [hc q hq8 hqD] at hyq; cases hyq
      · rw [ones_eq hc h2 q hq8 hqD] at hyq; cases hyq
  · rcases (H.lam D hD y hy).chain hq8 hqD hyq with hc | hc
    · rw [hc p hp8 hDp] at hyp; cases hyp
    · have h1 : onesN y.set.toNat < onesN D.set.toNat := by
        rcases Nat.lt_or_ge (onesN y.set.toNat) (onesN D.set.toNat) with h1 | h1
        · exact h1
        · rw [ones_eq hc h1 p hp8 hDp] at hyp; cases hyp
      exact Nat.lt_of_lt_of_le h1 (ones_le hDS)
end Go.Proofs.Ytojgdallodmanaa

namespace Go.Proofs.Ytojgdallodmanaa

def allN (h : Hul) : Nat := 2 ^ h.ps.length - 1
theorem allN_bit (h : Hul) (p : Nat) : (allN h).testBit p = decide (p < h.ps.length) := Nat.testBit_two_pow_sub_one _ _
/-- As good: the set is no lighter, and all parts weigh as much. -/
def QF (h : Hul) (first : Nat) (t t' : Nat → Int) : Prop := sumS t first ≤ sumS t' first ∧ sumS t' (allN h) = sumS t (allN h)
theorem QF.refl (h : Hul) (first : Nat) (t : Nat → Int) : QF h first t t := ⟨Int.le_refl _, rfl⟩
theorem QF.trans {h : Hul} {first : Nat} {t t' t'' : Nat → Int} (a : QF h first t t') (b : QF h first t' t'') : QF h first t t'' := ⟨Int.le_trans a.1 b.1, b.2.trans a.2⟩
theorem upd_upd (w : Nat → Int) (p : Nat) (a b : Int) : upd (upd w p a) p b = upd w p b := by funext i; simp only [upd]; split <;> rfl
theorem upd_same (w : Nat → Int) (p : Nat) : upd w p (w p) = w := by funext i; simp only [upd]; split <;> simp_all
theorem upd_le {w : Nat → Int} {p : Nat} {v : Int} (h : w p ≤ v) : ∀ i, w i ≤ upd w p v i := fun i => by
  by_cases hi : i = p
  · subst hi; rw [upd_self]; exact h
  · rw [upd_ne hi]; exact Int.le_refl _

section
variable {h : Hul} {l : List Wgh}
theorem Lw.fill (H : Lw h l) {first : Nat} {w : Nat → Int} (hk : Keeps h l (QF h first) w) {S : Wgh} (hS : S ∈ l) {p : Nat} (hp : p < h.ps.length) (hSp : S.set.toNat.testBit p = true)
    (hlo : ∀ i, i < h.ps.length → loOf h i ≤ w i) (hph : w p + 1 ≤ hiOf h p) (hr : ∀ y ∈ l, y.set.toNat.testBit p = true → sumS w y.set.toNat + 1 ≤ y.hi)
    (hd : sumS w S.set.toNat + 1 ≤ S.lo) (hdone : ∀ y ∈ l, onesN y.set.toNat < onesN S.set.toNat → y.lo ≤ sumS w y.set.toNat)
    (hpf : first.testBit p = true ∨ ∀ q, q < h.ps.length → S.set.toNat.testBit q = true → first.testBit q = true → Full h l w q) : Keeps h l (QF h first) (upd w p (w p + 1)) := by
  intro t ht
  obtain ⟨t', ht', hw', hQ⟩ := hk t ht
  have hn := H.n8
  by_cases hge : w p + 1 ≤ t' p
  · refine ⟨t', ht', fun i hi => ?_, hQ⟩
    by_cases hip : i = p
    · subst hip; rw [upd_self]; exact hge
    · rw [upd_ne hip]; exact hw' i hi
  · have hpt : t' p = w p := by have := hw' p hp; omega
    have hSb := (ht'.2 S hS).1
    obtain ⟨q, hq, hSq, hqt, hT, hL⟩ := H.partner (w := w) (t := t') hp hS hSp (by omega) hr
    have hqp : q ≠ p := fun hc => by rw [hc] at hqt; omega
    obtain ⟨s1, s2⟩ := H.swap ht' hw' hlo hp hq hpt hqt hph hT (fun y hy hyq hyp => hdone y hy (hL y hy hyq hyp))
    refine ⟨_, s1, s2, hQ.trans ⟨?_, ?_⟩⟩
    · rw [sumS_upd _ (by omega), sumS_upd _ (by omega), upd_ne hqp]
      rcases hpf with hpf | hpf
      · rw [hpf]
        cases first.testBit q <;> simp only [if_true, Bool.false_eq_true, if_false] <;> omega
      · cases hfq : first.testBit q with
        | true => have := H.full_eq ht' hw' hq (hpf q hq hSq hfq); omega
        | false => cases first.testBit p <;> simp only [if_true, Bool.false_eq_true, if_false] <;> omega
    · rw [sumS_upd _ (by omega), sumS_upd _ (by omega), upd_ne hqp, allN_bit, allN_bit, decide_eq_true hp, decide_eq_true hq]
      simp only [if_true]
      omega
theorem Lw.fillN (H : Lw h l) {first : Nat} {w : Nat → Int} (hk : Keeps h l (QF h first) w) {S : Wgh} (hS : S ∈ l) {p : Nat} (hp : p < h.ps.length) (hSp : S.set.toNat.testBit p = true)
    (hlo : ∀ i, i < h.ps.length → loOf h i ≤ w i) (hdone : ∀ y ∈ l, onesN y.set.toNat < onesN S.set.toNat → y.lo ≤ sumS w y.set.toNat)
    (hpf : first.testBit p = true ∨ ∀ q, q < h.ps.length → S.set.toNat.testBit q = true → first.testBit q = true → Full h l w q) : ∀ k : Nat,
    w p + k ≤ hiOf h p → (∀ y ∈ l, y.set.toNat.testBit p = true → sumS w y.set.toNat + k ≤ y.hi) → sumS w S.set.toNat + k ≤ S.lo → Keeps h l (QF h first) (upd w p (w p + k)) := by
  have hn := H.n8
  intro k
  induction k with
  | zero => intro _ _ _; rw [show w p + ((0 : Nat) : Int) = w p by omega, upd_same]; exact hk
  | succ k ih =>
    intro h1 h2 h3
    have hih := ih (by omega) (fun y hy hyp => by have := h2 y hy hyp; omega) (by omega)
    have hge : ∀ i, w i ≤ upd w p (w p + k) i := upd_le (by omega)
    have := H.fill hih hS hp hSp (fun i hi => Int.le_trans (hlo i hi) (hge i)) (by rw [upd_self]; omega)
      (fun y hy hyp => by rw [sumS_upd _ (by omega), hyp, if_pos rfl]; have := h2 y hy hyp; omega) (by rw [sumS_upd _ (by omega), hSp, if_pos rfl]; omega)
      (fun y hy hyo => Int.le_trans (hdone y hy hyo) (sumS_le fun i _ _ => hge i)) (hpf.imp id fun hf q a b c => (hf q a b c).mono hge)
    rw [upd_self, upd_upd] at this
    rw [show w p + ((k + 1 : Nat) : Int) = w p + k + 1 by omega]
    exact this

/-- By how much a part can be heavier: the first k weighings. -/
def roomTo (w : Nat → Int) (l : List Wgh) (p : Nat) (m : Int) : Nat → Int
  | 0 => m
  | k + 1 => match l[k]? with
    | some x => if x.set.toNat.testBit p then min (roomTo w l p m k) (x.hi - sumS w x.set.toNat) else roomTo w l p m k
    | none => roomTo w l p m k
theorem roomTo_succ (w : Nat → Int) (l : List Wgh) (p : Nat) (m : Int) (k : Nat) : roomTo w l p m (k + 1) = match l[k]? with
    | some x => if x.set.toNat.testBit p then min (roomTo w l p m k) (x.hi - sumS w x.set.toNat) else roomTo w l p m k
    | none => roomTo w l p m k := rfl
theorem roomTo_le (w : Nat → Int) (l : List Wgh) (p : Nat) (m : Int) : ∀ k, roomTo w l p m k ≤ m ∧ ∀ i x, i < k → l[i]? = some x → x.set.toNat.testBit p = true → roomTo w l p m k ≤ x.hi - sumS w x.set.toNat := by
  intro k
  induction k with
  | zero => exact ⟨Int.le_refl _, fun i x hi => by omega⟩
  | succ k ih =>
    have hle : roomTo w l p m (k + 1) ≤ roomTo w l p m k := by
      rw [roomTo_succ]
      split
      · split
        · exact Int.min_le_left _ _
        · exact Int.le_refl _
      · exact Int.le_refl _
    refine ⟨Int.le_trans hle ih.1, fun i x hi hx hb => ?_⟩
    by_cases hik : i = k
    · subst hik
      unfold roomTo
      rw [hx]
      simp only [hb, if_true]
      exact Int.min_le_right _ _
    · exact Int.le_trans hle (ih.2 i x (by omega) hx hb)
theorem roomTo_is (w : Nat → Int) (l : List Wgh) (p : Nat) (m : Int) : ∀ k, roomTo w l p m k = m ∨ ∃ i x, i < k ∧ l[i]? = some x ∧ x.set.toNat.testBit p = true ∧ roomTo w l p m k = x.hi - sumS w x.set.toNat := by
  intro k
  induction k with
  | zero => exact .inl rfl
  | succ k ih =>
    rw [roomTo_succ]
    split
    · rename_i x hx
      split
      · rename_i hb
        rcases Int.le_total (roomTo w l p m k) (x.hi - sumS w x.set.toNat) with hle | hle
        · rw [Int.min_eq_left hle]
          exact ih.imp id fun ⟨i, x, a, b⟩ => ⟨i, x, by omega, b⟩
        · rw [Int.min_eq_right hle]
          exact .inr ⟨k, x, by omega, hx, hb, rfl⟩
      · exact ih.imp id fun ⟨i, x, a, b⟩ => ⟨i, x, by omega, b⟩
    · exact ih.imp id fun ⟨i, x, a, b⟩ => ⟨i, x, by omega, b⟩
def roomF (h : Hul) (l : List Wgh) (w : Nat → Int) (p : Nat) (m : Int) : Int := max 0 (roomTo w l p (min m (hiOf h p - w p)) l.length)
theorem roomF_ge (h : Hul) (l : List Wgh) (w : Nat → Int) (p : Nat) (m : Int) : 0 ≤ roomF h l w p m := Int.le_max_left _ _
theorem roomF_le {h : Hul} {l : List Wgh} {w : Nat → Int} {p : Nat} {m : Int} (hr : 0 < roomF h l w p m) : roomF h l w p m ≤ m ∧ w p + roomF h l w p m ≤ hiOf h p ∧ ∀ y ∈ l, y.set.toNat.testBit p = true → sumS w y.set.toNat + roomF h l w p m ≤ y.hi := by
  have he : roomF h l w p m = roomTo w l p (min m (hiOf h p - w p)) l.length := by unfold roomF at hr ⊢; omega
  rw [he]
  obtain ⟨h1, h2⟩ := roomTo_le w l p (min m (hiOf h p - w p)) l.length
  refine ⟨by omega, by omega, fun y hy hb => ?_⟩
  obtain ⟨i, hi⟩ := List.getElem?_of_mem hy
  have := h2 i y (List.getElem?_eq_some_iff.1 hi).1 hi hb
  omega
theorem roomF_full (h : Hul) (l : List Wgh) (w : Nat → Int) {p : Nat} (hp : p < 8) (m : Int) : m ≤ roomF h l w p m ∨ Full h l (upd w p (w p + roomF h l w p m)) p := by
  have hge := roomF_ge h l w p m
  have he : roomTo w l p (min m (hiOf h p - w p)) l.length ≤ roomF h l w p m := Int.le_max_right _ _
  rcases roomTo_is w l p (min m (hiOf h p - w p)) l.length with h1 | ⟨i, x, _, hx, hb, h1⟩
  · rcases Int.le_total m (hiOf h p - w p) with h2 | h2
    · exact .inl (by omega)
    · exact .inr (.inl (by rw [upd_self]; omega))
  · exact .inr (.inr ⟨x, List.mem_of_getElem? hx, hb, by rw [sumS_upd _ hp, hb, if_pos rfl]; omega⟩)

/-- The first k parts of a set are raised. -/
def raisedTo (h : Hul) (l : List Wgh) (s : Nat) (w : Nat → Int) (m : Int) : Nat → (Nat → Int) × Int
  | 0 => (w, m)
  | k + 1 => if s.testBit k then (upd (raisedTo h l s w m k).1 k ((raisedTo h l s w m k).1 k + roomF h l (raisedTo h l s w m k).1 k (raisedTo h l s w m k).2), (raisedTo h l s w m k).2 - roomF h l (raisedTo h l s w m k).1 k (raisedTo h l s w m k).2) else raisedTo h l s w m k
theorem raisedTo_succ (h : Hul) (l : List Wgh) (s : Nat) (w : Nat → Int) (m : Int) (k : Nat) : raisedTo h l s w m (k + 1) = if s.testBit k then (upd (raisedTo h l s w m k).1 k ((raisedTo h l s w m k).1 k + roomF h l (raisedTo h l s w m k).1 k (raisedTo h l s w m k).2), (raisedTo h l s w m k).2 - roomF h l (raisedTo h l s w m k).1 k (raisedTo h l s w m k).2) else raisedTo h l s w m k := rfl
def raised (h : Hul) (l : List Wgh) (w : Nat → Int) (s : Nat) (m : Int) : Nat → Int := (raisedTo h l s w m h.ps.length).1
theorem raisedTo_ge (h : Hul) (l : List Wgh) (s : Nat) (w : Nat → Int) (m : Int) : ∀ k i, w i ≤ (raisedTo h l s w m k).1 i := by
  intro k
  induction k with
  | zero => intro i; exact Int.le_refl _
  | succ k ih =>
    intro i
    rw [raisedTo_succ]
    split
    · exact Int.le_trans (ih i) (upd_le (by have := roomF_ge h l (raisedTo h l s w m k).1 k (raisedTo h l s w m k).2; omega) i)
    · exact ih i
theorem raised_ge (h : Hul) (l : List Wgh) (w : Nat → Int) (s : Nat) (m : Int) (i : Nat) : w i ≤ raised h l w s m i := raisedTo_ge h l s w m _ i
theorem raisedTo_box {h : Hul} (l : List Wgh) (s : Nat) {w : Nat → Int} (m : Int) (hb : Box h w) : ∀ k, k ≤ h.ps.length → Box h (raisedTo h l s w m k).1 := by
  intro k
  induction k with
  | zero => intro _; exact hb
  | succ k ih =>
    intro hk
    rw [raisedTo_succ]
    split
    · have hb1 := box_iff.1 (ih (by omega))
      refine box_iff.2 fun i hi => ?_
      simp only
      by_cases hik : i = k
      · subst hik
        rw [upd_self]
        have h1 := roomF_ge h l (raisedTo h l s w m i).1 i (raisedTo h l s w m i).2
        have h2 := hb1 i hi
        rcases Int.lt_or_le 0 (roomF h l (raisedTo h l s w m i).1 i (raisedTo h l s w m i).2) with h3 | h3
        · have := (roomF_le h3).2.1; omega
        · omega
      · rw [upd_ne hik]; exact hb1 i hi
    · exact ih (by omega)
theorem raised_box {h : Hul} (l : List Wgh) (s : Nat) {w : Nat → Int} (m : Int) (hb : Box h w) : Box h (raised h l w s m) := raisedTo_box l s m hb _ (Nat.le_refl _)

/-- A set's parts are raised for a weighing. -/
theorem Lw.raise (H : Lw h l) {first : Nat} {w : Nat → Int} (hk : Keeps h l (QF h first) w) {S : Wgh} (hS : S ∈ l) {s : Nat} (hs : ∀ p, s.testBit p = true → S.set.toNat.testBit p = true)
    (hlo : ∀ i, i < h.ps.length → loOf h i ≤ w i) (hdone : ∀ y ∈ l, onesN y.set.toNat < onesN S.set.toNat → y.lo ≤ sumS w y.set.toNat)
    (hpf : (∀ p, s.testBit p = true → first.testBit p = true) ∨ S.lo ≤ sumS w S.set.toNat ∨ ∀ q, q < h.ps.length → S.set.toNat.testBit q = true → first.testBit q = true → Full h l w q) : ∀ k, k ≤ h.ps.length →
    Keeps h l (QF h first) (raisedTo h l s w (S.lo - sumS w S.set.toNat) k).1 ∧ (raisedTo h l s w (S.lo - sumS w S.set.toNat) k).2 = S.lo - sumS (raisedTo h l s w (S.lo - sumS w S.set.toNat) k).1 S.set.toNat ∧
      ∀ q, q < k → s.testBit q = true → S.lo ≤ sumS (raisedTo h l s w (S.lo - sumS w S.set.toNat) k).1 S.set.toNat ∨ Full h l (raisedTo h l s w (S.lo - sumS w S.set.toNat) k).1 q := by
  have hn := H.n8
  intro k
  induction k with
  | zero => intro _; exact ⟨hk, rfl, fun q hq => by omega⟩
  | succ k ih =>
    intro hkn
    obtain ⟨i1, i2, i3⟩ := ih (by omega)
    have hge := raisedTo_ge h l s w (S.lo - sumS w S.set.toNat) k
    rw [raisedTo_succ]
    generalize raisedTo h l s w (S.lo - sumS w S.set.toNat) k = r at i1 i2 i3 hge ⊢
    obtain ⟨v, m⟩ := r
    simp only at i1 i2 i3 hge ⊢
    cases hb : s.testBit k with
    | false =>
      simp only [Bool.false_eq_true, if_false]
      exact ⟨i1, i2, fun q hq hbq => i3 q (by
        rcases Nat.lt_or_ge q k with h1 | h1
        · exact h1
        · obtain rfl : q = k := by omega
          rw [hb] at hbq; cases hbq) hbq⟩
    | true =>
      simp only [if_true]
      have hSk := hs k hb
      have h0 := roomF_ge h l v k m
      have hup : ∀ i, v i ≤ upd v k (v k + roomF h l v k m) i := upd_le (by omega)
      have hsum : sumS (upd v k (v k + roomF h l v k m)) S.set.toNat = sumS v S.set.toNat + roomF h l v k m := by
        rw [sumS_upd _ (by omega), hSk, if_pos rfl]; omega
      refine ⟨?_, by rw [hsum]; omega, fun q hq hbq => ?_⟩
      · rcases Int.lt_or_le 0 (roomF h l v k m) with h3 | h3
        · obtain ⟨r1, r2, r3⟩ := roomF_le h3
          have h4 := H.fillN i1 hS (p := k) (by omega) hSk (fun i hi => Int.le_trans (hlo i hi) (hge i)) (fun y hy hyo => Int.le_trans (hdone y hy hyo) (sumS_le fun i _ _ => hge i))
            (by
              rcases hpf with hf | hf | hf
              · exact .inl (hf k hb)
              · have : sumS w S.set.toNat ≤ sumS v S.set.toNat := sumS_le fun i _ _ => hge i
                omega
              · exact .inr fun q a b c => (hf q a b c).mono hge) (roomF h l v k m).toNat (by omega) (fun y hy hyp => by have := r3 y hy hyp; omega) (by omega)
          rw [show (((roomF h l v k m).toNat : Nat) : Int) = roomF h l v k m by omega] at h4
          exact h4
        · rw [show v k + roomF h l v k m = v k by omega, upd_same]; exact i1
      · by_cases hqk : q = k
        · subst hqk
          rcases roomF_full h l v (p := q) (by omega) m with h3 | h3
          · exact .inl (by rw [hsum]; omega)
          · exact .inr h3
        · rcases i3 q (by omega) hbq with h3 | h3
          · exact .inl (by rw [hsum]; omega)
          · exact .inr (h3.mono hup)

/-- A weighing shows as much as it has to: the parts of one set ahead of the others. -/
def fillOne (h : Hul) (l : List Wgh) (first : Nat) (x : Wgh) (w : Nat → Int) : Nat → Int :=
  let v := raised h l w (x.set.toNat &&& first) (x.lo - sumS w x.set.toNat)
  raised h l v (x.set.toNat - (x.set.toNat &&& first)) (x.lo - sumS v x.set.toNat)
theorem sub_xor {a c : Nat} (ha : a < 256) (hc : a &&& c = c) : a - c = a ^^^ c := by
  have hca : c ≤ a := by rw [← hc]; exact Nat.and_le_left
  have hx : a ^^^ c < 256 := Nat.xor_lt_two_pow (n := 8) ha (by omega)
  have hand : (BitVec.ofNat 8 c) &&& (BitVec.ofNat 8 (a ^^^ c)) = 0#8 := by
    apply BitVec.eq_of_toNat_eq
    rw [BitVec.toNat_and, BitVec.toNat_ofNat, BitVec.toNat_ofNat, Nat.mod_eq_of_lt (by omega), Nat.mod_eq_of_lt (by omega)]
    apply Nat.eq_of_testBit_eq
    intro i
    have := congrArg (fun x => x.testBit i) hc
    simp only [Nat.testBit_and] at this
    simp only [Nat.testBit_and, Nat.testBit_xor, BitVec.toNat_ofNat, Nat.zero_mod, Nat.zero_testBit]
    cases h1 : a.testBit i <;> cases h2 : c.testBit i <;> simp_all
  have h1 := BitVec.toNat_add_of_and_eq_zero hand
  rw [BitVec.add_eq_or_of_and_eq_zero _ _ hand, BitVec.toNat_or, BitVec.toNat_ofNat, BitVec.toNat_ofNat, Nat.mod_eq_of_lt (by omega), Nat.mod_eq_of_lt (by omega)] at h1
  have h2 : c ||| (a ^^^ c) = a := by
    apply Nat.eq_of_testBit_eq
    intro i
    have := congrArg (fun x => x.testBit i) hc
    simp only [Nat.testBit_and] at this
    simp only [Nat.testBit_or, Nat.testBit_xor]
    cases h1 : a.testBit i <;> cases h2 : c.testBit i <;> simp_all
  omega
theorem sub_bit {a b : Nat} (ha : a < 256) (p : Nat) : (a - (a &&& b)).testBit p = (a.testBit p && !b.testBit p) := by
  rw [sub_xor ha (by rw [← Nat.and_assoc, Nat.and_self]), Nat.testBit_xor, Nat.testBit_and]
  cases a.testBit p <;> cases b.testBit p <;> rfl
theorem fillOne_ge (h : Hul) (l : List Wgh) (first : Nat) (x : Wgh) (w : Nat → Int) (i : Nat) : w i ≤ fillOne h l first x w i := Int.le_trans (raised_ge h l w _ _ i) (raised_ge h l _ _ _ i)
theorem fillOne_box {h : Hul} {l : List Wgh} {first : Nat} {x : Wgh} {w : Nat → Int} (hb : Box h w) : Box h (fillOne h l first x w) := raised_box l _ _ (raised_box l _ _ hb)
theorem Lw.one (H : Lw h l) {first : Nat} {w : Nat → Int} (hk : Keeps h l (QF h first) w) {S : Wgh} (hS : S ∈ l)
    (hlo : ∀ i, i < h.ps.length → loOf h i ≤ w i) (hdone : ∀ y ∈ l, onesN y.set.toNat < onesN S.set.toNat → y.lo ≤ sumS w y.set.toNat) :
    Keeps h l (QF h first) (fillOne h l first S w) ∧ (Feas h l → S.lo ≤ sumS (fillOne h l first S w) S.set.toNat) := by
  have hn := H.n8
  have hlt := H.lt S hS
  have hp8 : 2 ^ h.ps.length ≤ 256 := Nat.pow_le_pow_right (n := 2) (by decide) hn
  obtain ⟨a1, a2, a3⟩ := H.raise (first := first) (s := S.set.toNat &&& first) hk hS (fun p hp => by simp only [Nat.testBit_and, Bool.and_eq_true] at hp; exact hp.1) hlo hdone (.inl fun p hp => by simp only [Nat.testBit_and, Bool.and_eq_true] at hp; exact hp.2) h.ps.length (Nat.le_refl _)
  have hge := raised_ge h l w (S.set.toNat &&& first) (S.lo - sumS w S.set.toNat)
  have hv : (raisedTo h l (S.set.toNat &&& first) w (S.lo - sumS w S.set.toNat) h.ps.length).1 = raised h l w (S.set.toNat &&& first) (S.lo - sumS w S.set.toNat) := rfl
  rw [hv] at a1 a3
  have hf : fillOne h l first S w = raised h l (raised h l w (S.set.toNat &&& first) (S.lo - sumS w S.set.toNat)) (S.set.toNat - (S.set.toNat &&& first)) (S.lo - sumS (raised h l w (S.set.toNat &&& first) (S.lo - sumS w S.set.toNat)) S.set.toNat) := rfl
  rw [hf]
  generalize raised h l w (S.set.toNat &&& first) (S.lo - sumS w S.set.toNat) = v at a1 a3 hge
  have hboth : S.lo ≤ sumS v S.set.toNat ∨ ∀ q, q < h.ps.length → S.set.toNat.testBit q = true → first.testBit q = true → Full h l v q := by
    rcases Int.lt_or_le (sumS v S.set.toNat) S.lo with h1 | h1
    · refine .inr fun q hq hSq hfq => ?_
      rcases a3 q hq (by rw [Nat.testBit_and, hSq, hfq]; rfl) with h2 | h2
      · omega
      · exact h2
    · exact .inl h1
  obtain ⟨b1, b2, b3⟩ := H.raise (first := first) (s := S.set.toNat - (S.set.toNat &&& first)) a1 hS (fun p hp => by rw [sub_bit (by omega)] at hp; simp only [Bool.and_eq_true] at hp; exact hp.1) (fun i hi => Int.le_trans (hlo i hi) (hge i)) (fun y hy hyo => Int.le_trans (hdone y hy hyo) (sumS_le fun i _ _ => hge i)) (.inr hboth) h.ps.length (Nat.le_refl _)
  have hge2 := raised_ge h l v (S.set.toNat - (S.set.toNat &&& first)) (S.lo - sumS v S.set.toNat)
  have hu : (raisedTo h l (S.set.toNat - (S.set.toNat &&& first)) v (S.lo - sumS v S.set.toNat) h.ps.length).1 = raised h l v (S.set.toNat - (S.set.toNat &&& first)) (S.lo - sumS v S.set.toNat) := rfl
  rw [hu] at b1 b3
  generalize raised h l v (S.set.toNat - (S.set.toNat &&& first)) (S.lo - sumS v S.set.toNat) = u at b1 b3 hge2
  refine ⟨b1, fun ⟨t, ht⟩ => ?_⟩
  obtain ⟨t', ht', hw', _⟩ := b1 t ht
  rcases Int.lt_or_le (sumS u S.set.toNat) S.lo with h1 | h1
  · have hle : sumS t' S.set.toNat ≤ sumS u S.set.toNat := sumS_le fun q _ hSq => by
      have hq := bit_lt hlt hSq
      have hfull : Full h l u q := by
        cases hfq : first.testBit q with
        | true =>
          rcases hboth with h2 | h2
          · have : sumS v S.set.toNat ≤ sumS u S.set.toNat := sumS_le fun i _ _ => hge2 i
            omega
          · exact (h2 q hq hSq hfq).mono hge2
        | false =>
          rcases b3 q hq (by rw [sub_bit (by omega), hSq, hfq]; rfl) with h2 | h2
          · omega
          · exact h2
      exact Int.le_of_eq (H.full_eq ht' hw' hq hfull)
    have := (ht'.2 S hS).1
    omega
  · exact h1

/-- The first k weighings of so many parts are filled. -/
def fillTo (h : Hul) (l : List Wgh) (first many : Nat) (w : Nat → Int) : Nat → Nat → Int
  | 0 => w
  | k + 1 => match l[k]? with
    | some x => if onesN x.set.toNat = many then fillOne h l first x (fillTo h l first many w k) else fillTo h l first many w k
    | none => fillTo h l first many w k
theorem fillTo_succ (h : Hul) (l : List Wgh) (first many : Nat) (w : Nat → Int) (k : Nat) : fillTo h l first many w (k + 1) = match l[k]? with
    | some x => if onesN x.set.toNat = many then fillOne h l first x (fillTo h l first many w k) else fillTo h l first many w k
    | none => fillTo h l first many w k := rfl
def filledTo (h : Hul) (l : List Wgh) (first : Nat) : Nat → Nat → Int
  | 0 => loOf h
  | m + 1 => fillTo h l first (m + 1) (filledTo h l first m) l.length
def filled (h : Hul) (l : List Wgh) (first : Nat) : Nat → Int := filledTo h l first h.ps.length
theorem fillTo_ge (h : Hul) (l : List Wgh) (first many : Nat) (w : Nat → Int) : ∀ k i, w i ≤ fillTo h l first many w k i := by
  intro k
  induction k with
  | zero => intro i; exact Int.le_refl _
  | succ k ih =>
    intro i
    rw [fillTo_succ]
    split
    · split
      · exact Int.le_trans (ih i) (fillOne_ge h l first _ _ i)
      · exact ih i
    · exact ih i
theorem fillTo_box {h : Hul} {l : List Wgh} {first many : Nat} {w : Nat → Int} (hb : Box h w) : ∀ k, Box h (fillTo h l first many w k) := by
  intro k
  induction k with
  | zero => exact hb
  | succ k ih =>
    rw [fillTo_succ]
    split
    · split
      · exact fillOne_box ih
      · exact ih
    · exact ih
theorem lo_box (hp : PsOk h.ps) : Box h (loOf h) := by
  intro i p hi
  have h2 := hp p (List.mem_of_getElem? hi)
  simp only [loOf, hi, Option.map_some, Option.getD_some]
  omega
theorem filledTo_box (hp : PsOk h.ps) (first : Nat) : ∀ m, Box h (filledTo h l first m) := by
  intro m
  induction m with
  | zero => exact lo_box hp
  | succ m ih => exact fillTo_box ih _
theorem filledTo_ge (first : Nat) : ∀ m i, loOf h i ≤ filledTo h l first m i := by
  intro m
  induction m with
  | zero => intro i; exact Int.le_refl _
  | succ m ih => intro i; exact Int.le_trans (ih i) (fillTo_ge h l first (m + 1) _ _ i)
theorem Lw.fillAll (H : Lw h l) (hf : Feas h l) {first many : Nat} {w : Nat → Int} (hk : Keeps h l (QF h first) w) (hlo : ∀ i, i < h.ps.length → loOf h i ≤ w i) (hdone : ∀ y ∈ l, onesN y.set.toNat < many → y.lo ≤ sumS w y.set.toNat) : ∀ k,
    Keeps h l (QF h first) (fillTo h l first many w k) ∧ ∀ i y, i < k → l[i]? = some y → onesN y.set.toNat = many → y.lo ≤ sumS (fillTo h l first many w k) y.set.toNat := by
  intro k
  induction k with
  | zero => exact ⟨hk, fun i y hi => by omega⟩
  | succ k ih =>
    obtain ⟨i1, i2⟩ := ih
    have hge := fillTo_ge h l first many w k
    rw [fillTo_succ]
    split
    · rename_i x hx
      split
      · rename_i ho
        have hx2 := List.mem_of_getElem? hx
        obtain ⟨o1, o2⟩ := H.one i1 hx2 (fun i hi => Int.le_trans (hlo i hi) (hge i)) (fun y hy hyo => Int.le_trans (hdone y hy (by omega)) (sumS_le fun i _ _ => hge i))
        refine ⟨o1, fun i y hi hy hyo => ?_⟩
        by_cases hik : i = k
        · subst hik
          rw [hx] at hy
          injection hy with hy
          subst hy
          exact o2 hf
        · exact Int.le_trans (i2 i y (by omega) hy hyo) (sumS_le fun i _ _ => fillOne_ge h l first x _ i)
      · rename_i ho
        refine ⟨i1, fun i y hi hy hyo => ?_⟩
        by_cases hik : i = k
        · subst hik
          rw [hx] at hy
          injection hy with hy
          subst hy
          exact absurd hyo ho
        · exact i2 i y (by omega) hy hyo
    · rename_i hx
      refine ⟨i1, fun i y hi hy hyo => ?_⟩
      by_cases hik : i = k
      · subst hik; rw [hx] at hy; cases hy
      · exact i2 i y (by omega) hy hyo
theorem Lw.filled_keeps (H : Lw h l) (hpos : ∀ y ∈ l, 0 < onesN y.set.toNat) (hf : Feas h l) (first : Nat) : ∀ m,
    Keeps h l (QF h first) (filledTo h l first m) ∧ ∀ y ∈ l, onesN y.set.toNat ≤ m → y.lo ≤ sumS (filledTo h l first m) y.set.toNat := by
  intro m
  induction m with
  | zero =>
    refine ⟨fun t ht => ⟨t, ht, fun i hi => ?_, QF.refl _ _ _⟩, fun y hy hyo => ?_⟩
    · have hb : Box h t := ht.1
      exact (box_iff.1 hb i hi).1
    · have := hpos y hy; omega
  | succ m ih =>
    obtain ⟨i1, i2⟩ := ih
    obtain ⟨o1, o2⟩ := H.fillAll hf (many := m + 1) i1 (fun i _ => filledTo_ge first m i) (fun y hy hyo => i2 y hy (by omega)) l.length
    refine ⟨o1, fun y hy hyo => ?_⟩
    by_cases hym : onesN y.set.toNat = m + 1
    · obtain ⟨i, hi⟩ := List.getElem?_of_mem hy
      exact o2 i y (List.getElem?_eq_some_iff.1 hi).1 hi hym
    · exact Int.le_trans (i2 y hy (by omega)) (sumS_le fun i _ _ => fillTo_ge h l first (m + 1) _ _ i)
theorem ones_all : ∀ n, n ≤ 8 → onesN (2 ^ n - 1) = n := by decide
theorem Lw.ones_le_n (H : Lw h l) {y : Wgh} (hy : y ∈ l) : onesN y.set.toNat ≤ h.ps.length := by
  have h1 := ones_all h.ps.length H.n8
  rw [← h1]
  exact ones_le fun p _ hb => by
    rw [Nat.testBit_two_pow_sub_one]
    exact decide_eq_true (bit_lt (H.lt y hy) hb)
theorem Lw.filled_truth (H : Lw h l) (hps : PsOk h.ps) (hpos : ∀ y ∈ l, 0 < onesN y.set.toNat) (hf : Feas h l) (first : Nat) : TruthP h l (filled h l first) ∧ Keeps h l (QF h first) (filled h l first) := by
  obtain ⟨h1, h2⟩ := H.filled_keeps hpos hf first h.ps.length
  refine ⟨⟨filledTo_box hps first _, fun y hy => ⟨h2 y hy (H.ones_le_n hy), ?_⟩⟩, h1⟩
  obtain ⟨t, ht⟩ := hf
  obtain ⟨t', ht', hw', _⟩ := h1 t ht
  exact Int.le_trans (sumS_le fun i _ hb => hw' i (bit_lt (H.lt y hy) hb)) (ht'.2 y hy).2
/-- How heavy a set is at least. -/
def leastRef (h : Hul) (l : List Wgh) (set : Nat) : Int := sumS (filled h l (allN h - set)) set
theorem Lw.leastRef_is (H : Lw h l) (hps : PsOk h.ps) (hpos : ∀ y ∈ l, 0 < onesN y.set.toNat) (hf : Feas h l) {set : Nat} (hs : set < 2 ^ h.ps.length) : IsLeast h l set (leastRef h l set) := by
  obtain ⟨h1, h2⟩ := H.filled_truth hps hpos hf (allN h - set)
  have h256 : 2 ^ h.ps.length ≤ 256 := Nat.pow_le_pow_right (n := 2) (by decide) H.n8
  have hall : ∀ w : Nat → Int, sumS w (allN h) = sumS w set + sumS w (allN h - set) := fun w => by
    have hsub : allN h &&& set = set := by
      apply Nat.eq_of_testBit_eq
      intro i
      rw [Nat.testBit_and, allN_bit]
      cases hb : set.testBit i with
      | true => simp [bit_lt hs hb]
      | false => simp
    have e : ∀ i, (allN h - set).testBit i = ((allN h).testBit i && !set.testBit i) := fun i => by
      have := sub_bit (a := allN h) (b := set) (by unfold allN; omega) i
      rw [hsub] at this
      exact this
    unfold sumS
    rw [← sumP_union (fun i _ hc => by rw [e, hc.1] at hc; simp at hc)]
    apply sumP_congr
    · intro i _
      rw [e, allN_bit]
      cases hb : set.testBit i with
      | true => simp [bit_lt hs hb]
      | false => simp
    · intros; rfl
  refine ⟨fun w hw => ?_, _, h1, rfl⟩
  obtain ⟨t', ht', hw', hq1, hq2⟩ := h2 w hw
  rw [hall, hall w] at hq2
  have : leastRef h l set ≤ sumS t' set := sumS_le fun i _ hb => hw' i (bit_lt hs hb)
  omega
end
end Go.Proofs.Ytojgdallodmanaa

namespace Go.Proofs.Ytojgdallodmanaa

def QM (set : Nat) (t t' : Nat → Int) : Prop := sumS t set ≤ sumS t' set
section
variable {h : Hul} {l : List Wgh}
/-- One part of the set is heavier by one. -/
theorem Lw.lift (H : Lw h l) {set : Nat} {w : Nat → Int} (hk : Keeps h l (QM set) w) {p : Nat} (hp : p < h.ps.length) (hsp : set.testBit p = true)
    (hlo : ∀ i, i < h.ps.length → loOf h i ≤ w i) (hph : w p + 1 ≤ hiOf h p) (hr : ∀ y ∈ l, y.set.toNat.testBit p = true → sumS w y.set.toNat + 1 ≤ y.hi)
    (hdone : ∀ y ∈ l, y.lo ≤ sumS w y.set.toNat) : Keeps h l (QM set) (upd w p (w p + 1)) := by
  intro t ht
  obtain ⟨t', ht', hw', hQ⟩ := hk t ht
  have hn := H.n8
  by_cases hge : w p + 1 ≤ t' p
  · refine ⟨t', ht', fun i hi => ?_, hQ⟩
    by_cases hip : i = p
    · subst hip; rw [upd_self]; exact hge
    · rw [upd_ne hip]; exact hw' i hi
  · have hpt : t' p = w p := by have := hw' p hp; omega
    by_cases htight : ∃ y ∈ l, y.set.toNat.testBit p = true ∧ y.hi ≤ sumS t' y.set.toNat
    · obtain ⟨S, hS, hSp, hSt⟩ := htight
      have hSr := hr S hS hSp
      obtain ⟨q, hq, hSq, hqt, hT, hL⟩ := H.partner (w := w) (t := t') hp hS hSp (by omega) hr
      have hqp : q ≠ p := fun hc => by rw [hc] at hqt; omega
      obtain ⟨s1, s2⟩ := H.swap ht' hw' hlo hp hq hpt hqt hph hT (fun y hy hyq hyp => hdone y hy)
      refine ⟨_, s1, s2, Int.le_trans hQ ?_⟩
      rw [sumS_upd _ (by omega), sumS_upd _ (by omega), upd_ne hqp, hsp]
      cases set.testBit q <;> simp only [if_true, Bool.false_eq_true, if_false] <;> omega
    · have hnt : ∀ y ∈ l, y.set.toNat.testBit p = true → sumS t' y.set.toNat + 1 ≤ y.hi := fun y hy hyp => by
        rcases Int.lt_or_le (sumS t' y.set.toNat) y.hi with h1 | h1
        · omega
        · exact absurd ⟨y, hy, hyp, h1⟩ htight
      have hb : Box h t' := ht'.1
      rw [box_iff] at hb
      refine ⟨upd t' p (t' p + 1), ⟨box_iff.2 fun i hi => ?_, fun y hy => ?_⟩, fun i hi => ?_, Int.le_trans hQ ?_⟩
      · have h1 := hb i hi
        by_cases hip : i = p
        · subst hip; rw [upd_self]; omega
        · rw [upd_ne hip]; exact h1
      · have h1 := ht'.2 y hy
        rw [sumS_upd _ (by omega)]
        cases hyp : y.set.toNat.testBit p with
        | true => have := hnt y hy hyp; simp only [if_true]; omega
        | false => simp only [Bool.false_eq_true, if_false]; omega
      · by_cases hip : i = p
        · subst hip; rw [upd_self, upd_self]; omega
        · rw [upd_ne hip, upd_ne hip]; exact hw' i hi
      · rw [sumS_upd _ (by omega), hsp]
        simp only [if_true]
        omega
theorem Lw.liftN (H : Lw h l) {set : Nat} {w : Nat → Int} (hk : Keeps h l (QM set) w) {p : Nat} (hp : p < h.ps.length) (hsp : set.testBit p = true)
    (hlo : ∀ i, i < h.ps.length → loOf h i ≤ w i) (hdone : ∀ y ∈ l, y.lo ≤ sumS w y.set.toNat) : ∀ k : Nat,
    w p + k ≤ hiOf h p → (∀ y ∈ l, y.set.toNat.testBit p = true → sumS w y.set.toNat + k ≤ y.hi) → Keeps h l (QM set) (upd w p (w p + k)) := by
  have hn := H.n8
  intro k
  induction k with
  | zero => intro _ _; rw [show w p + ((0 : Nat) : Int) = w p by omega, upd_same]; exact hk
  | succ k ih =>
    intro h1 h2
    have hih := ih (by omega) (fun y hy hyp => by have := h2 y hy hyp; omega)
    have hge : ∀ i, w i ≤ upd w p (w p + k) i := upd_le (by omega)
    have := H.lift hih hp hsp (fun i hi => Int.le_trans (hlo i hi) (hge i)) (by rw [upd_self]; omega)
      (fun y hy hyp => by rw [sumS_upd _ (by omega), hyp, if_pos rfl]; have := h2 y hy hyp; omega)
      (fun y hy => Int.le_trans (hdone y hy) (sumS_le fun i _ _ => hge i))
    rw [upd_self, upd_upd] at this
    rw [show w p + ((k + 1 : Nat) : Int) = w p + k + 1 by omega]
    exact this
theorem hiOf_le (hps : PsOk h.ps) (i : Nat) : 0 ≤ loOf h i ∧ hiOf h i ≤ 100000 := by
  unfold loOf hiOf
  cases hi : h.ps[i]? with
  | none => simp
  | some p => have := hps p (List.mem_of_getElem? hi); simp only [Option.map_some, Option.getD_some]; omega
theorem Lw.lifts (H : Lw h l) (hps : PsOk h.ps) {set : Nat} {w : Nat → Int} (hk : Keeps h l (QM set) w) (hbox : Box h w) (hdone : ∀ y ∈ l, y.lo ≤ sumS w y.set.toNat) : ∀ k, k ≤ h.ps.length →
    Keeps h l (QM set) (raisedTo h l set w ((h.ps.length : Int) * 100000) k).1 ∧ ((h.ps.length : Int) - k) * 100000 ≤ (raisedTo h l set w ((h.ps.length : Int) * 100000) k).2 ∧
      ∀ q, q < k → set.testBit q = true → Full h l (raisedTo h l set w ((h.ps.length : Int) * 100000) k).1 q := by
  have hn := H.n8
  intro k
  induction k with
  | zero => intro _; exact ⟨hk, by simp only [raisedTo]; omega, fun q hq => by omega⟩
  | succ k ih =>
    intro hkn
    obtain ⟨i1, i2, i3⟩ := ih (by omega)
    have hge := raisedTo_ge h l set w ((h.ps.length : Int) * 100000) k
    have hbx := raisedTo_box l set ((h.ps.length : Int) * 100000) hbox k (by omega)
    rw [raisedTo_succ]
    generalize raisedTo h l set w ((h.ps.length : Int) * 100000) k = r at i1 i2 i3 hge hbx ⊢
    obtain ⟨v, m⟩ := r
    simp only at i1 i2 i3 hge hbx ⊢
    rw [box_iff] at hbx
    cases hb : set.testBit k with
    | false =>
      simp only [Bool.false_eq_true, if_false]
      exact ⟨i1, by omega, fun q hq hbq => i3 q (by
        rcases Nat.lt_or_ge q k with h1 | h1
        · exact h1
        · obtain rfl : q = k := by omega
          rw [hb] at hbq; cases hbq) hbq⟩
    | true =>
      simp only [if_true]
      have h0 := roomF_ge h l v k m
      have hup : ∀ i, v i ≤ upd v k (v k + roomF h l v k m) i := upd_le (by omega)
      have hbk := hbx k (by omega)
      have h100 := hiOf_le hps k
      have hr1 : roomF h l v k m ≤ hiOf h k - v k := by
        rcases Int.lt_or_le 0 (roomF h l v k m) with h3 | h3
        · have := (roomF_le h3).2.1; omega
        · omega
      refine ⟨?_, by omega, fun q hq hbq => ?_⟩
      · rcases Int.lt_or_le 0 (roomF h l v k m) with h3 | h3
        · obtain ⟨r1, r2, r3⟩ := roomF_le h3
          have h4 := H.liftN i1 (p := k) (by omega) hb (fun i hi => (hbx i hi).1) (fun y hy => Int.le_trans (hdone y hy) (sumS_le fun i _ _ => hge i)) (roomF h l v k m).toNat (by omega) (fun y hy hyp => by have := r3 y hy hyp; omega)
          rw [show (((roomF h l v k m).toNat : Nat) : Int) = roomF h l v k m by omega] at h4
          exact h4
        · rw [show v k + roomF h l v k m = v k by omega, upd_same]; exact i1
      · by_cases hqk : q = k
        · subst hqk
          rcases roomF_full h l v (p := q) (by omega) m with h3 | h3
          · refine .inl ?_
            rw [upd_self]
            have h5 : m ≤ hiOf h q - v q := by omega
            have h6 : (100000 : Int) ≤ m := by
              have : ((h.ps.length : Int) - (q : Int)) * 100000 ≥ 100000 := by omega
              omega
            omega
          · exact h3
        · exact (i3 q (by omega) hbq).mono hup
/-- The weights of Most. -/
def mostW (h : Hul) (l : List Wgh) (set : Nat) : Nat → Int := raised h l (filled h l set) set ((h.ps.length : Int) * 100000)
def mostRef (h : Hul) (l : List Wgh) (set : Nat) : Int := sumS (mostW h l set) set
theorem Lw.most_is (H : Lw h l) (hps : PsOk h.ps) (hpos : ∀ y ∈ l, 0 < onesN y.set.toNat) (hf : Feas h l) {set : Nat} (hs : set < 2 ^ h.ps.length) : TruthP h l (mostW h l set) ∧ IsMost h l set (mostRef h l set) := by
  obtain ⟨h1, h2⟩ := H.filled_truth hps hpos hf set
  obtain ⟨i1, _, i3⟩ := H.lifts hps (set := set) (w := filled h l set) (fun t ht => by obtain ⟨t', a, b, c⟩ := h2 t ht; exact ⟨t', a, b, c.1⟩) h1.1 (fun y hy => (h1.2 y hy).1) h.ps.length (Nat.le_refl _)
  have hu : (raisedTo h l set (filled h l set) ((h.ps.length : Int) * 100000) h.ps.length).1 = mostW h l set := rfl
  rw [hu] at i1 i3
  have hge : ∀ i, filled h l set i ≤ mostW h l set i := fun i => raised_ge h l (filled h l set) set ((h.ps.length : Int) * 100000) i
  have ht : TruthP h l (mostW h l set) := by
    refine ⟨raised_box l set ((h.ps.length : Int) * 100000) h1.1, fun y hy => ⟨Int.le_trans (h1.2 y hy).1 (sumS_le fun i _ _ => hge i), ?_⟩⟩
    obtain ⟨t, ht⟩ := hf
    obtain ⟨t', ht', hw', _⟩ := i1 t ht
    exact Int.le_trans (sumS_le fun i _ hb => hw' i (bit_lt (H.lt y hy) hb)) (ht'.2 y hy).2
  refine ⟨ht, fun w hw => ?_, _, ht, rfl⟩
  obtain ⟨t', ht', hw', hq⟩ := i1 w hw
  refine Int.le_trans hq (sumS_le fun i _ hb => ?_)
  exact Int.le_of_eq (H.full_eq ht' hw' (bit_lt hs hb) (i3 i (bit_lt hs hb) hb))

/-- Whether weights agree with all weighings. -/
def agreesB (l : List Wgh) (w : Nat → Int) : Bool := l.all fun x => decide (x.lo ≤ sumS w x.set.toNat) && decide (sumS w x.set.toNat ≤ x.hi)
theorem agrees_iff {w : Nat → Int} : agreesB l w = true ↔ ∀ x ∈ l, x.lo ≤ sumS w x.set.toNat ∧ sumS w x.set.toNat ≤ x.hi := by
  simp [agreesB, List.all_eq_true]
theorem mostW_box (hps : PsOk h.ps) (set : Nat) : Box h (mostW h l set) := raised_box l set ((h.ps.length : Int) * 100000) (filledTo_box hps set _)
theorem Lw.most_feas (H : Lw h l) (hps : PsOk h.ps) (hpos : ∀ y ∈ l, 0 < onesN y.set.toNat) {set : Nat} (hs : set < 2 ^ h.ps.length) : agreesB l (mostW h l set) = true ↔ Feas h l := by
  constructor
  · intro ha
    exact ⟨mostW h l set, mostW_box hps set, agrees_iff.1 ha⟩
  · intro hf
    exact agrees_iff.2 (H.most_is hps hpos hf hs).1.2

theorem ones_pos : ∀ s : Nat, s < 256 → 0 < s → 0 < onesN s := by decide +kernel
theorem lwOk (hp : openPre h l = 0) : Lw h l ∧ PsOk h.ps ∧ ∀ y ∈ l, 0 < onesN y.set.toNat := by
  have hk := hulOk (openPre_zero hp).1
  refine ⟨⟨hk.n8, fun x hx y hy => ?_, fun x hx => ?_⟩, hk.ps, fun y hy => ?_⟩
  · obtain ⟨i, hi, rfl⟩ := List.getElem_of_mem hx
    obtain ⟨j, hj, rfl⟩ := List.getElem_of_mem hy
    have hl := List.pairwise_iff_getElem.1 (lam_list hp)
    rcases Nat.lt_trichotomy i j with h1 | h1 | h1
    · exact hl i j hi hj h1
    · subst h1; exact .inr (.inl fun _ _ h => h)
    · exact (hl j i hj hi h1).symm
  · obtain ⟨s, _, _, a3, a4, _⟩ := wghs_ok hp x hx
    rw [a4]; omega
  · obtain ⟨s, a1, a2, a3, a4, _⟩ := wghs_ok hp y hy
    rw [a4]
    exact ones_pos _ (by omega) (by omega)
end
end Go.Proofs.Ytojgdallodmanaa
