/- The reference's greedy way, step by step: what it fills and what it raises. The plain law. No program is named here. The reference's Most: weights in which a set is as heavy as it can be. The plain law. No program is named here. The reference's room. The reference's Hangs and Block. -/
import Derived.Test.YtmhjhbchokbonaaGreatM0
import Derived.Test.YtmhjhbchokbonaaGreatM5
import Derived.Test.YtmhjhbchokbonaaGreatM6
set_option maxRecDepth 1000000
set_option maxHeartbeats 16000000
namespace Go.Proofs.YtmhjhbchokbonaaGreat
def allN (h : Hul) : Nat := 2 ^ h.ps.length - 1
theorem allN_bit (h : Hul) (p : Nat) : (allN h).testBit p = decide (p < h.ps.length) := Nat.testBit_two_pow_sub_one _ _
def QF (h : Hul) (first : Nat) (t t' : Nat → Int) : Prop := sumS t first ≤ sumS t' first ∧ sumS t' (allN h) = sumS t (allN h)
theorem QF.refl (h : Hul) (first : Nat) (t : Nat → Int) : QF h first t t := ⟨Int.le_refl _, rfl⟩
theorem QF.trans {h : Hul} {first : Nat} {t t' t'' : Nat → Int} (a : QF h first t t') (b : QF h first t' t'') : QF h first t t'' := ⟨Int.le_trans a.1 b.1, b.2.trans a.2⟩
theorem upd_upd (w : Nat → Int) (p : Nat) (a b : Int) : upd (upd w p a) p b = upd w p b := by funext i; simp only [upd]; split <;> rfl
theorem upd_same (w : Nat → Int) (p : Nat) : upd w p (w p) = w := by funext i; simp only [upd]; split <;> simp_all
theorem upd_le {w : Nat → Int} {p : Nat} {v : Int} (h : w p ≤ v) : ∀ i, w i ≤ upd w p v i := fun i => by
 by_cases hi : i = p
 ·subst hi; rw [upd_self]; exact h
 ·rw [upd_ne hi]; exact Int.le_refl _
section
variable {h : Hul} {l : List Wgh}
theorem Lw.fill (H : Lw h l) {first : Nat} {w : Nat → Int} (hk : Keeps h l (QF h first) w) {S : Wgh} (hS : S ∈ l) {p : Nat} (hp : p < h.ps.length) (hSp : S.set.toNat.testBit p = true)
  (hlo : ∀ i, i < h.ps.length → loOf h i ≤ w i) (hph : w p + 1 ≤ hiOf h p) (hr : ∀ y ∈ l, y.set.toNat.testBit p = true → sumS w y.set.toNat + 1 ≤ y.hi)
  (hd : sumS w S.set.toNat + 1 ≤ S.lo) (hdone : ∀ y ∈ l, onesN y.set.toNat < onesN S.set.toNat → y.lo ≤ sumS w y.set.toNat)
  (hpf : first.testBit p = true ∨ ∀ q, q < h.ps.length → S.set.toNat.testBit q = true → first.testBit q = true → Full h l w q) : Keeps h l (QF h first) (upd w p (w p + 1)) := by
 intro t ht
 obtain ⟨t', ht', hw', hQ⟩ := hk t ht
 have hn := H.n8
 by_cases hge : w p + 1 ≤ t' p
 ·refine ⟨t', ht', fun i hi => ?_, hQ⟩
  by_cases hip : i = p
  ·subst hip; rw [upd_self]; exact hge
  ·rw [upd_ne hip]; exact hw' i hi
 ·have hpt : t' p = w p := by have := hw' p hp; omega
  have hSb := (ht'.2 S hS).1
  obtain ⟨q, hq, hSq, hqt, hT, hL⟩ := H.partner (w := w) (t := t') hp hS hSp (by omega) hr
  have hqp : q ≠ p := fun hc => by rw [hc] at hqt; omega
  obtain ⟨s1, s2⟩ := H.swap ht' hw' hlo hp hq hpt hqt hph hT (fun y hy hyq hyp => hdone y hy (hL y hy hyq hyp))
  refine ⟨_, s1, s2, hQ.trans ⟨?_, ?_⟩⟩
  ·rw [sumS_upd _ (by omega), sumS_upd _ (by omega), upd_ne hqp]
   rcases hpf with hpf | hpf
   ·rw [hpf]
    cases first.testBit q <;> simp only [if_true, Bool.false_eq_true, if_false] <;> omega
   ·cases hfq : first.testBit q with
    | true => have := H.full_eq ht' hw' hq (hpf q hq hSq hfq); omega
    | false => cases first.testBit p <;> simp only [if_true, Bool.false_eq_true, if_false] <;> omega
  ·rw [sumS_upd _ (by omega), sumS_upd _ (by omega), upd_ne hqp, allN_bit, allN_bit, decide_eq_true hp, decide_eq_true hq]
   simp only [if_true]
   omega
theorem Lw.fillN (H : Lw h l) {first : Nat} {w : Nat → Int} (hk : Keeps h l (QF h first) w) {S : Wgh} (hS : S ∈ l) {p : Nat} (hp : p < h.ps.length) (hSp : S.set.toNat.testBit p = true)
  (hlo : ∀ i, i < h.ps.length → loOf h i ≤ w i) (hdone : ∀ y ∈ l, onesN y.set.toNat < onesN S.set.toNat → y.lo ≤ sumS w y.set.toNat)
  (hpf : first.testBit p = true ∨ ∀ q, q < h.ps.length → S.set.toNat.testBit q = true → first.testBit q = true → Full h l w q) : ∀ k : Nat,
  w p + k ≤ hiOf h p → (∀ y ∈ l, y.set.toNat.testBit p = true → sumS w y.set.toNat + k ≤ y.hi) → sumS w S.set.toNat + k ≤ S.lo → Keeps h l (QF h first) (upd w p (w p + k)) := by
 have hn := H.n8
 intro k
 induction k with
 | zero => intro _ _ _; rw [show w p + ((0 : Nat) : Int) = w p by omega, upd_same]; exact hk
 | succ k ih =>
  intro h1 h2 h3
  have hih := ih (by omega) (fun y hy hyp => by have := h2 y hy hyp; omega) (by omega)
  have hge : ∀ i, w i ≤ upd w p (w p + k) i := upd_le (by omega)
  have := H.fill hih hS hp hSp (fun i hi => Int.le_trans (hlo i hi) (hge i)) (by rw [upd_self]; omega)
   (fun y hy hyp => by rw [sumS_upd _ (by omega), hyp, if_pos rfl]; have := h2 y hy hyp; omega) (by rw [sumS_upd _ (by omega), hSp, if_pos rfl]; omega)
   (fun y hy hyo => Int.le_trans (hdone y hy hyo) (sumS_le fun i _ _ => hge i)) (hpf.imp id fun hf q a b c => (hf q a b c).mono hge)
  rw [upd_self, upd_upd] at this
  rw [show w p + ((k + 1 : Nat) : Int) = w p + k + 1 by omega]
  exact this
def roomTo (w : Nat → Int) (l : List Wgh) (p : Nat) (m : Int) : Nat → Int
 | 0 => m
 | k + 1 => match l[k]? with
  | some x => if x.set.toNat.testBit p then min (roomTo w l p m k) (x.hi - sumS w x.set.toNat) else roomTo w l p m k
  | none => roomTo w l p m k
theorem roomTo_succ (w : Nat → Int) (l : List Wgh) (p : Nat) (m : Int) (k : Nat) : roomTo w l p m (k + 1) = match l[k]? with
  | some x => if x.set.toNat.testBit p then min (roomTo w l p m k) (x.hi - sumS w x.set.toNat) else roomTo w l p m k
  | none => roomTo w l p m k := rfl
theorem roomTo_le (w : Nat → Int) (l : List Wgh) (p : Nat) (m : Int) : ∀ k, roomTo w l p m k ≤ m ∧ ∀ i x, i < k → l[i]? = some x → x.set.toNat.testBit p = true → roomTo w l p m k ≤ x.hi - sumS w x.set.toNat := by
 intro k
 induction k with
 | zero => exact ⟨Int.le_refl _, fun i x hi => by omega⟩
 | succ k ih =>
  have hle : roomTo w l p m (k + 1) ≤ roomTo w l p m k := by
   rw [roomTo_succ]
   split
   ·split
    ·exact Int.min_le_left _ _
    ·exact Int.le_refl _
   ·exact Int.le_refl _
  refine ⟨Int.le_trans hle ih.1, fun i x hi hx hb => ?_⟩
  by_cases hik : i = k
  ·subst hik
   unfold roomTo
   rw [hx]
   simp only [hb, if_true]
   exact Int.min_le_right _ _
  ·exact Int.le_trans hle (ih.2 i x (by omega) hx hb)
theorem roomTo_is (w : Nat → Int) (l : List Wgh) (p : Nat) (m : Int) : ∀ k, roomTo w l p m k = m ∨ ∃ i x, i < k ∧ l[i]? = some x ∧ x.set.toNat.testBit p = true ∧ roomTo w l p m k = x.hi - sumS w x.set.toNat := by
 intro k
 induction k with
 | zero => exact .inl rfl
 | succ k ih =>
  rw [roomTo_succ]
  split
  ·rename_i x hx
   split
   ·rename_i hb
    rcases Int.le_total (roomTo w l p m k) (x.hi - sumS w x.set.toNat) with hle | hle
    ·rw [Int.min_eq_left hle]
     exact ih.imp id fun ⟨i, x, a, b⟩ => ⟨i, x, by omega, b⟩
    ·rw [Int.min_eq_right hle]
     exact .inr ⟨k, x, by omega, hx, hb, rfl⟩
   ·exact ih.imp id fun ⟨i, x, a, b⟩ => ⟨i, x, by omega, b⟩
  ·exact ih.imp id fun ⟨i, x, a, b⟩ => ⟨i, x, by omega, b⟩
def roomF (h : Hul) (l : List Wgh) (w : Nat → Int) (p : Nat) (m : Int) : Int := max 0 (roomTo w l p (min m (hiOf h p - w p)) l.length)
theorem roomF_ge (h : Hul) (l : List Wgh) (w : Nat → Int) (p : Nat) (m : Int) : 0 ≤ roomF h l w p m := Int.le_max_left _ _
theorem roomF_le {h : Hul} {l : List Wgh} {w : Nat → Int} {p : Nat} {m : Int} (hr : 0 < roomF h l w p m) : roomF h l w p m ≤ m ∧ w p + roomF h l w p m ≤ hiOf h p ∧ ∀ y ∈ l, y.set.toNat.testBit p = true → sumS w y.set.toNat + roomF h l w p m ≤ y.hi := by
 have he : roomF h l w p m = roomTo w l p (min m (hiOf h p - w p)) l.length := by unfold roomF at hr ⊢; omega
 rw [he]
 obtain ⟨h1, h2⟩ := roomTo_le w l p (min m (hiOf h p - w p)) l.length
 refine ⟨by omega, by omega, fun y hy hb => ?_⟩
 obtain ⟨i, hi⟩ := List.getElem?_of_mem hy
 have := h2 i y (List.getElem?_eq_some_iff.1 hi).1 hi hb
 omega
theorem roomF_full (h : Hul) (l : List Wgh) (w : Nat → Int) {p : Nat} (hp : p < 8) (m : Int) : m ≤ roomF h l w p m ∨ Full h l (upd w p (w p + roomF h l w p m)) p := by
 have hge := roomF_ge h l w p m
 have he : roomTo w l p (min m (hiOf h p - w p)) l.length ≤ roomF h l w p m := Int.le_max_right _ _
 rcases roomTo_is w l p (min m (hiOf h p - w p)) l.length with h1 | ⟨i, x, _, hx, hb, h1⟩
 ·rcases Int.le_total m (hiOf h p - w p) with h2 | h2
  ·exact .inl (by omega)
  ·exact .inr (.inl (by rw [upd_self]; omega))
 ·exact .inr (.inr ⟨x, List.mem_of_getElem? hx, hb, by rw [sumS_upd _ hp, hb, if_pos rfl]; omega⟩)
def raisedTo (h : Hul) (l : List Wgh) (s : Nat) (w : Nat → Int) (m : Int) : Nat → (Nat → Int) × Int
 | 0 => (w, m)
 | k + 1 => if s.testBit k then (upd (raisedTo h l s w m k).1 k ((raisedTo h l s w m k).1 k + roomF h l (raisedTo h l s w m k).1 k (raisedTo h l s w m k).2), (raisedTo h l s w m k).2 - roomF h l (raisedTo h l s w m k).1 k (raisedTo h l s w m k).2) else raisedTo h l s w m k
theorem raisedTo_succ (h : Hul) (l : List Wgh) (s : Nat) (w : Nat → Int) (m : Int) (k : Nat) : raisedTo h l s w m (k + 1) = if s.testBit k then (upd (raisedTo h l s w m k).1 k ((raisedTo h l s w m k).1 k + roomF h l (raisedTo h l s w m k).1 k (raisedTo h l s w m k).2), (raisedTo h l s w m k).2 - roomF h l (raisedTo h l s w m k).1 k (raisedTo h l s w m k).2) else raisedTo h l s w m k := rfl
def raised (h : Hul) (l : List Wgh) (w : Nat → Int) (s : Nat) (m : Int) : Nat → Int := (raisedTo h l s w m h.ps.length).1
theorem raisedTo_ge (h : Hul) (l : List Wgh) (s : Nat) (w : Nat → Int) (m : Int) : ∀ k i, w i ≤ (raisedTo h l s w m k).1 i := by
 intro k
 induction k with
 | zero => intro i; exact Int.le_refl _
 | succ k ih =>
  intro i
  rw [raisedTo_succ]
  split
  ·exact Int.le_trans (ih i) (upd_le (by have := roomF_ge h l (raisedTo h l s w m k).1 k (raisedTo h l s w m k).2; omega) i)
  ·exact ih i
theorem raised_ge (h : Hul) (l : List Wgh) (w : Nat → Int) (s : Nat) (m : Int) (i : Nat) : w i ≤ raised h l w s m i := raisedTo_ge h l s w m _ i
theorem raisedTo_box {h : Hul} (l : List Wgh) (s : Nat) {w : Nat → Int} (m : Int) (hb : Box h w) : ∀ k, k ≤ h.ps.length → Box h (raisedTo h l s w m k).1 := by
 intro k
 induction k with
 | zero => intro _; exact hb
 | succ k ih =>
  intro hk
  rw [raisedTo_succ]
  split
  ·have hb1 := box_iff.1 (ih (by omega))
   refine box_iff.2 fun i hi => ?_
   simp only
   by_cases hik : i = k
   ·subst hik
    rw [upd_self]
    have h1 := roomF_ge h l (raisedTo h l s w m i).1 i (raisedTo h l s w m i).2
    have h2 := hb1 i hi
    rcases Int.lt_or_le 0 (roomF h l (raisedTo h l s w m i).1 i (raisedTo h l s w m i).2) with h3 | h3
    ·have := (roomF_le h3).2.1; omega
    ·omega
   ·rw [upd_ne hik]; exact hb1 i hi
  ·exact ih (by omega)
theorem raised_box {h : Hul} (l : List Wgh) (s : Nat) {w : Nat → Int} (m : Int) (hb : Box h w) : Box h (raised h l w s m) := raisedTo_box l s m hb _ (Nat.le_refl _)
theorem Lw.raise (H : Lw h l) {first : Nat} {w : Nat → Int} (hk : Keeps h l (QF h first) w) {S : Wgh} (hS : S ∈ l) {s : Nat} (hs : ∀ p, s.testBit p = true → S.set.toNat.testBit p = true)
  (hlo : ∀ i, i < h.ps.length → loOf h i ≤ w i) (hdone : ∀ y ∈ l, onesN y.set.toNat < onesN S.set.toNat → y.lo ≤ sumS w y.set.toNat)
  (hpf : (∀ p, s.testBit p = true → first.testBit p = true) ∨ S.lo ≤ sumS w S.set.toNat ∨ ∀ q, q < h.ps.length → S.set.toNat.testBit q = true → first.testBit q = true → Full h l w q) : ∀ k, k ≤ h.ps.length →
  Keeps h l (QF h first) (raisedTo h l s w (S.lo - sumS w S.set.toNat) k).1 ∧ (raisedTo h l s w (S.lo - sumS w S.set.toNat) k).2 = S.lo - sumS (raisedTo h l s w (S.lo - sumS w S.set.toNat) k).1 S.set.toNat ∧
   ∀ q, q < k → s.testBit q = true → S.lo ≤ sumS (raisedTo h l s w (S.lo - sumS w S.set.toNat) k).1 S.set.toNat ∨ Full h l (raisedTo h l s w (S.lo - sumS w S.set.toNat) k).1 q := by
 have hn := H.n8
 intro k
 induction k with
 | zero => intro _; exact ⟨hk, rfl, fun q hq => by omega⟩
 | succ k ih =>
  intro hkn
  obtain ⟨i1, i2, i3⟩ := ih (by omega)
  have hge := raisedTo_ge h l s w (S.lo - sumS w S.set.toNat) k
  rw [raisedTo_succ]
  generalize raisedTo h l s w (S.lo - sumS w S.set.toNat) k = r at i1 i2 i3 hge ⊢
  obtain ⟨v, m⟩ := r
  simp only at i1 i2 i3 hge ⊢
  cases hb : s.testBit k with
  | false =>
   simp only [Bool.false_eq_true, if_false]
   exact ⟨i1, i2, fun q hq hbq => i3 q (by
    rcases Nat.lt_or_ge q k with h1 | h1
    ·exact h1
    ·obtain rfl : q = k := by omega
     rw [hb] at hbq; cases hbq) hbq⟩
  | true =>
   simp only [if_true]
   have hSk := hs k hb
   have h0 := roomF_ge h l v k m
   have hup : ∀ i, v i ≤ upd v k (v k + roomF h l v k m) i := upd_le (by omega)
   have hsum : sumS (upd v k (v k + roomF h l v k m)) S.set.toNat = sumS v S.set.toNat + roomF h l v k m := by
    rw [sumS_upd _ (by omega), hSk, if_pos rfl]; omega
   refine ⟨?_, by rw [hsum]; omega, fun q hq hbq => ?_⟩
   ·rcases Int.lt_or_le 0 (roomF h l v k m) with h3 | h3
    ·obtain ⟨r1, r2, r3⟩ := roomF_le h3
     have h4 := H.fillN i1 hS (p := k) (by omega) hSk (fun i hi => Int.le_trans (hlo i hi) (hge i)) (fun y hy hyo => Int.le_trans (hdone y hy hyo) (sumS_le fun i _ _ => hge i))
      (by
       rcases hpf with hf | hf | hf
       ·exact .inl (hf k hb)
       ·have : sumS w S.set.toNat ≤ sumS v S.set.toNat := sumS_le fun i _ _ => hge i
        omega
       ·exact .inr fun q a b c => (hf q a b c).mono hge) (roomF h l v k m).toNat (by omega) (fun y hy hyp => by have := r3 y hy hyp; omega) (by omega)
     rw [show (((roomF h l v k m).toNat : Nat) : Int) = roomF h l v k m by omega] at h4
     exact h4
    ·rw [show v k + roomF h l v k m = v k by omega, upd_same]; exact i1
   ·by_cases hqk : q = k
    ·subst hqk
     rcases roomF_full h l v (p := q) (by omega) m with h3 | h3
     ·exact .inl (by rw [hsum]; omega)
     ·exact .inr h3
    ·rcases i3 q (by omega) hbq with h3 | h3
     ·exact .inl (by rw [hsum]; omega)
     ·exact .inr (h3.mono hup)
def fillOne (h : Hul) (l : List Wgh) (first : Nat) (x : Wgh) (w : Nat → Int) : Nat → Int :=
 let v := raised h l w (x.set.toNat &&& first) (x.lo - sumS w x.set.toNat)
 raised h l v (x.set.toNat - (x.set.toNat &&& first)) (x.lo - sumS v x.set.toNat)
theorem sub_xor {a c : Nat} (ha : a < 256) (hc : a &&& c = c) : a - c = a ^^^ c := by
 have hca : c ≤ a := by rw [← hc]; exact Nat.and_le_left
 have hx : a ^^^ c < 256 := Nat.xor_lt_two_pow (n := 8) ha (by omega)
 have hand : (BitVec.ofNat 8 c) &&& (BitVec.ofNat 8 (a ^^^ c)) = 0#8 := by
  apply BitVec.eq_of_toNat_eq
  rw [BitVec.toNat_and, BitVec.toNat_ofNat, BitVec.toNat_ofNat, Nat.mod_eq_of_lt (by omega), Nat.mod_eq_of_lt (by omega)]
  apply Nat.eq_of_testBit_eq
  intro i
  have := congrArg (fun x => x.testBit i) hc
  simp only [Nat.testBit_and] at this
  simp only [Nat.testBit_and, Nat.testBit_xor, BitVec.toNat_ofNat, Nat.zero_mod, Nat.zero_testBit]
  cases h1 : a.testBit i <;> cases h2 : c.testBit i <;> simp_all
 have h1 := BitVec.toNat_add_of_and_eq_zero hand
 rw [BitVec.add_eq_or_of_and_eq_zero _ _ hand, BitVec.toNat_or, BitVec.toNat_ofNat, BitVec.toNat_ofNat, Nat.mod_eq_of_lt (by omega), Nat.mod_eq_of_lt (by omega)] at h1
 have h2 : c ||| (a ^^^ c) = a := by
  apply Nat.eq_of_testBit_eq
  intro i
  have := congrArg (fun x => x.testBit i) hc
  simp only [Nat.testBit_and] at this
  simp only [Nat.testBit_or, Nat.testBit_xor]
  cases h1 : a.testBit i <;> cases h2 : c.testBit i <;> simp_all
 omega
theorem sub_bit {a b : Nat} (ha : a < 256) (p : Nat) : (a - (a &&& b)).testBit p = (a.testBit p && !b.testBit p) := by
 rw [sub_xor ha (by rw [← Nat.and_assoc, Nat.and_self]), Nat.testBit_xor, Nat.testBit_and]
 cases a.testBit p <;> cases b.testBit p <;> rfl
theorem fillOne_ge (h : Hul) (l : List Wgh) (first : Nat) (x : Wgh) (w : Nat → Int) (i : Nat) : w i ≤ fillOne h l first x w i := Int.le_trans (raised_ge h l w _ _ i) (raised_ge h l _ _ _ i)
theorem fillOne_box {h : Hul} {l : List Wgh} {first : Nat} {x : Wgh} {w : Nat → Int} (hb : Box h w) : Box h (fillOne h l first x w) := raised_box l _ _ (raised_box l _ _ hb)
theorem Lw.one (H : Lw h l) {first : Nat} {w : Nat → Int} (hk : Keeps h l (QF h first) w) {S : Wgh} (hS : S ∈ l)
  (hlo : ∀ i, i < h.ps.length → loOf h i ≤ w i) (hdone : ∀ y ∈ l, onesN y.set.toNat < onesN S.set.toNat → y.lo ≤ sumS w y.set.toNat) :
  Keeps h l (QF h first) (fillOne h l first S w) ∧ (Feas h l → S.lo ≤ sumS (fillOne h l first S w) S.set.toNat) := by
 have hn := H.n8
 have hlt := H.lt S hS
 have hp8 : 2 ^ h.ps.length ≤ 256 := Nat.pow_le_pow_right (n := 2) (by decide) hn
 obtain ⟨a1, a2, a3⟩ := H.raise (first := first) (s := S.set.toNat &&& first) hk hS (fun p hp => by simp only [Nat.testBit_and, Bool.and_eq_true] at hp; exact hp.1) hlo hdone (.inl fun p hp => by simp only [Nat.testBit_and, Bool.and_eq_true] at hp; exact hp.2) h.ps.length (Nat.le_refl _)
 have hge := raised_ge h l w (S.set.toNat &&& first) (S.lo - sumS w S.set.toNat)
 have hv : (raisedTo h l (S.set.toNat &&& first) w (S.lo - sumS w S.set.toNat) h.ps.length).1 = raised h l w (S.set.toNat &&& first) (S.lo - sumS w S.set.toNat) := rfl
 rw [hv] at a1 a3
 have hf : fillOne h l first S w = raised h l (raised h l w (S.set.toNat &&& first) (S.lo - sumS w S.set.toNat)) (S.set.toNat - (S.set.toNat &&& first)) (S.lo - sumS (raised h l w (S.set.toNat &&& first) (S.lo - sumS w S.set.toNat)) S.set.toNat) := rfl
 rw [hf]
 generalize raised h l w (S.set.toNat &&& first) (S.lo - sumS w S.set.toNat) = v at a1 a3 hge
 have hboth : S.lo ≤ sumS v S.set.toNat ∨ ∀ q, q < h.ps.length → S.set.toNat.testBit q = true → first.testBit q = true → Full h l v q := by
  rcases Int.lt_or_le (sumS v S.set.toNat) S.lo with h1 | h1
  ·refine .inr fun q hq hSq hfq => ?_
   rcases a3 q hq (by rw [Nat.testBit_and, hSq, hfq]; rfl) with h2 | h2
   ·omega
   ·exact h2
  ·exact .inl h1
 obtain ⟨b1, b2, b3⟩ := H.raise (first := first) (s := S.set.toNat - (S.set.toNat &&& first)) a1 hS (fun p hp => by rw [sub_bit (by omega)] at hp; simp only [Bool.and_eq_true] at hp; exact hp.1) (fun i hi => Int.le_trans (hlo i hi) (hge i)) (fun y hy hyo => Int.le_trans (hdone y hy hyo) (sumS_le fun i _ _ => hge i)) (.inr hboth) h.ps.length (Nat.le_refl _)
 have hge2 := raised_ge h l v (S.set.toNat - (S.set.toNat &&& first)) (S.lo - sumS v S.set.toNat)
 have hu : (raisedTo h l (S.set.toNat - (S.set.toNat &&& first)) v (S.lo - sumS v S.set.toNat) h.ps.length).1 = raised h l v (S.set.toNat - (S.set.toNat &&& first)) (S.lo - sumS v S.set.toNat) := rfl
 rw [hu] at b1 b3
 generalize raised h l v (S.set.toNat - (S.set.toNat &&& first)) (S.lo - sumS v S.set.toNat) = u at b1 b3 hge2
 refine ⟨b1, fun ⟨t, ht⟩ => ?_⟩
 obtain ⟨t', ht', hw', _⟩ := b1 t ht
 rcases Int.lt_or_le (sumS u S.set.toNat) S.lo with h1 | h1
 ·have hle : sumS t' S.set.toNat ≤ sumS u S.set.toNat := sumS_le fun q _ hSq => by
   have hq := bit_lt hlt hSq
   have hfull : Full h l u q := by
    cases hfq : first.testBit q with
    | true =>
     rcases hboth with h2 | h2
     ·have : sumS v S.set.toNat ≤ sumS u S.set.toNat := sumS_le fun i _ _ => hge2 i
      omega
     ·exact (h2 q hq hSq hfq).mono hge2
    | false =>
     rcases b3 q hq (by rw [sub_bit (by omega), hSq, hfq]; rfl) with h2 | h2
     ·omega
     ·exact h2
   exact Int.le_of_eq (H.full_eq ht' hw' hq hfull)
  have := (ht'.2 S hS).1
  omega
 ·exact h1
def fillTo (h : Hul) (l : List Wgh) (first many : Nat) (w : Nat → Int) : Nat → Nat → Int
 | 0 => w
 | k + 1 => match l[k]? with
  | some x => if onesN x.set.toNat = many then fillOne h l first x (fillTo h l first many w k) else fillTo h l first many w k
  | none => fillTo h l first many w k
theorem fillTo_succ (h : Hul) (l : List Wgh) (first many : Nat) (w : Nat → Int) (k : Nat) : fillTo h l first many w (k + 1) = match l[k]? with
  | some x => if onesN x.set.toNat = many then fillOne h l first x (fillTo h l first many w k) else fillTo h l first many w k
  | none => fillTo h l first many w k := rfl
def filledTo (h : Hul) (l : List Wgh) (first : Nat) : Nat → Nat → Int
 | 0 => loOf h
 | m + 1 => fillTo h l first (m + 1) (filledTo h l first m) l.length
def filled (h : Hul) (l : List Wgh) (first : Nat) : Nat → Int := filledTo h l first h.ps.length
theorem fillTo_ge (h : Hul) (l : List Wgh) (first many : Nat) (w : Nat → Int) : ∀ k i, w i ≤ fillTo h l first many w k i := by
 intro k
 induction k with
 | zero => intro i; exact Int.le_refl _
 | succ k ih =>
  intro i
  rw [fillTo_succ]
  split
  ·split
   ·exact Int.le_trans (ih i) (fillOne_ge h l first _ _ i)
   ·exact ih i
  ·exact ih i
theorem fillTo_box {h : Hul} {l : List Wgh} {first many : Nat} {w : Nat → Int} (hb : Box h w) : ∀ k, Box h (fillTo h l first many w k) := by
 intro k
 induction k with
 | zero => exact hb
 | succ k ih =>
  rw [fillTo_succ]
  split
  ·split
   ·exact fillOne_box ih
   ·exact ih
  ·exact ih
theorem lo_box (hp : PsOk h.ps) : Box h (loOf h) := by
 intro i p hi
 have h2 := hp p (List.mem_of_getElem? hi)
 simp only [loOf, hi, Option.map_some, Option.getD_some]
 omega
theorem filledTo_box (hp : PsOk h.ps) (first : Nat) : ∀ m, Box h (filledTo h l first m) := by
 intro m
 induction m with
 | zero => exact lo_box hp
 | succ m ih => exact fillTo_box ih _
theorem filledTo_ge (first : Nat) : ∀ m i, loOf h i ≤ filledTo h l first m i := by
 intro m
 induction m with
 | zero => intro i; exact Int.le_refl _
 | succ m ih => intro i; exact Int.le_trans (ih i) (fillTo_ge h l first (m + 1) _ _ i)
theorem Lw.fillAll (H : Lw h l) (hf : Feas h l) {first many : Nat} {w : Nat → Int} (hk : Keeps h l (QF h first) w) (hlo : ∀ i, i < h.ps.length → loOf h i ≤ w i) (hdone : ∀ y ∈ l, onesN y.set.toNat < many → y.lo ≤ sumS w y.set.toNat) : ∀ k,
  Keeps h l (QF h first) (fillTo h l first many w k) ∧ ∀ i y, i < k → l[i]? = some y → onesN y.set.toNat = many → y.lo ≤ sumS (fillTo h l first many w k) y.set.toNat := by
 intro k
 induction k with
 | zero => exact ⟨hk, fun i y hi => by omega⟩
 | succ k ih =>
  obtain ⟨i1, i2⟩ := ih
  have hge := fillTo_ge h l first many w k
  rw [fillTo_succ]
  split
  ·rename_i x hx
   split
   ·rename_i ho
    have hx2 := List.mem_of_getElem? hx
    obtain ⟨o1, o2⟩ := H.one i1 hx2 (fun i hi => Int.le_trans (hlo i hi) (hge i)) (fun y hy hyo => Int.le_trans (hdone y hy (by omega)) (sumS_le fun i _ _ => hge i))
    refine ⟨o1, fun i y hi hy hyo => ?_⟩
    by_cases hik : i = k
    ·subst hik
     rw [hx] at hy
     injection hy with hy
     subst hy
     exact o2 hf
    ·exact Int.le_trans (i2 i y (by omega) hy hyo) (sumS_le fun i _ _ => fillOne_ge h l first x _ i)
   ·rename_i ho
    refine ⟨i1, fun i y hi hy hyo => ?_⟩
    by_cases hik : i = k
    ·subst hik
     rw [hx] at hy
     injection hy with hy
     subst hy
     exact absurd hyo ho
    ·exact i2 i y (by omega) hy hyo
  ·rename_i hx
   refine ⟨i1, fun i y hi hy hyo => ?_⟩
   by_cases hik : i = k
   ·subst hik; rw [hx] at hy; cases hy
   ·exact i2 i y (by omega) hy hyo
theorem Lw.filled_keeps (H : Lw h l) (hpos : ∀ y ∈ l, 0 < onesN y.set.toNat) (hf : Feas h l) (first : Nat) : ∀ m,
  Keeps h l (QF h first) (filledTo h l first m) ∧ ∀ y ∈ l, onesN y.set.toNat ≤ m → y.lo ≤ sumS (filledTo h l first m) y.set.toNat := by
 intro m
 induction m with
 | zero =>
  refine ⟨fun t ht => ⟨t, ht, fun i hi => ?_, QF.refl _ _ _⟩, fun y hy hyo => ?_⟩
  ·have hb : Box h t := ht.1
   exact (box_iff.1 hb i hi).1
  ·have := hpos y hy; omega
 | succ m ih =>
  obtain ⟨i1, i2⟩ := ih
  obtain ⟨o1, o2⟩ := H.fillAll hf (many := m + 1) i1 (fun i _ => filledTo_ge first m i) (fun y hy hyo => i2 y hy (by omega)) l.length
  refine ⟨o1, fun y hy hyo => ?_⟩
  by_cases hym : onesN y.set.toNat = m + 1
  ·obtain ⟨i, hi⟩ := List.getElem?_of_mem hy
   exact o2 i y (List.getElem?_eq_some_iff.1 hi).1 hi hym
  ·exact Int.le_trans (i2 y hy (by omega)) (sumS_le fun i _ _ => fillTo_ge h l first (m + 1) _ _ i)
theorem ones_all : ∀ n, n ≤ 8 → onesN (2 ^ n - 1) = n := by decide
theorem Lw.ones_le_n (H : Lw h l) {y : Wgh} (hy : y ∈ l) : onesN y.set.toNat ≤ h.ps.length := by
 have h1 := ones_all h.ps.length H.n8
 rw [← h1]
 exact ones_le fun p _ hb => by
  rw [Nat.testBit_two_pow_sub_one]
  exact decide_eq_true (bit_lt (H.lt y hy) hb)
theorem Lw.filled_truth (H : Lw h l) (hps : PsOk h.ps) (hpos : ∀ y ∈ l, 0 < onesN y.set.toNat) (hf : Feas h l) (first : Nat) : TruthP h l (filled h l first) ∧ Keeps h l (QF h first) (filled h l first) := by
 obtain ⟨h1, h2⟩ := H.filled_keeps hpos hf first h.ps.length
 refine ⟨⟨filledTo_box hps first _, fun y hy => ⟨h2 y hy (H.ones_le_n hy), ?_⟩⟩, h1⟩
 obtain ⟨t, ht⟩ := hf
 obtain ⟨t', ht', hw', _⟩ := h1 t ht
 exact Int.le_trans (sumS_le fun i _ hb => hw' i (bit_lt (H.lt y hy) hb)) (ht'.2 y hy).2
end
def QM (set : Nat) (t t' : Nat → Int) : Prop := sumS t set ≤ sumS t' set
section
variable {h : Hul} {l : List Wgh}
theorem Lw.lift (H : Lw h l) {set : Nat} {w : Nat → Int} (hk : Keeps h l (QM set) w) {p : Nat} (hp : p < h.ps.length) (hsp : set.testBit p = true)
  (hlo : ∀ i, i < h.ps.length → loOf h i ≤ w i) (hph : w p + 1 ≤ hiOf h p) (hr : ∀ y ∈ l, y.set.toNat.testBit p = true → sumS w y.set.toNat + 1 ≤ y.hi)
  (hdone : ∀ y ∈ l, y.lo ≤ sumS w y.set.toNat) : Keeps h l (QM set) (upd w p (w p + 1)) := by
 intro t ht
 obtain ⟨t', ht', hw', hQ⟩ := hk t ht
 have hn := H.n8
 by_cases hge : w p + 1 ≤ t' p
 ·refine ⟨t', ht', fun i hi => ?_, hQ⟩
  by_cases hip : i = p
  ·subst hip; rw [upd_self]; exact hge
  ·rw [upd_ne hip]; exact hw' i hi
 ·have hpt : t' p = w p := by have := hw' p hp; omega
  by_cases htight : ∃ y ∈ l, y.set.toNat.testBit p = true ∧ y.hi ≤ sumS t' y.set.toNat
  ·obtain ⟨S, hS, hSp, hSt⟩ := htight
   have hSr := hr S hS hSp
   obtain ⟨q, hq, hSq, hqt, hT, hL⟩ := H.partner (w := w) (t := t') hp hS hSp (by omega) hr
   have hqp : q ≠ p := fun hc => by rw [hc] at hqt; omega
   obtain ⟨s1, s2⟩ := H.swap ht' hw' hlo hp hq hpt hqt hph hT (fun y hy hyq hyp => hdone y hy)
   refine ⟨_, s1, s2, Int.le_trans hQ ?_⟩
   rw [sumS_upd _ (by omega), sumS_upd _ (by omega), upd_ne hqp, hsp]
   cases set.testBit q <;> simp only [if_true, Bool.false_eq_true, if_false] <;> omega
  ·have hnt : ∀ y ∈ l, y.set.toNat.testBit p = true → sumS t' y.set.toNat + 1 ≤ y.hi := fun y hy hyp => by
    rcases Int.lt_or_le (sumS t' y.set.toNat) y.hi with h1 | h1
    ·omega
    ·exact absurd ⟨y, hy, hyp, h1⟩ htight
   have hb : Box h t' := ht'.1
   rw [box_iff] at hb
   refine ⟨upd t' p (t' p + 1), ⟨box_iff.2 fun i hi => ?_, fun y hy => ?_⟩, fun i hi => ?_, Int.le_trans hQ ?_⟩
   ·have h1 := hb i hi
    by_cases hip : i = p
    ·subst hip; rw [upd_self]; omega
    ·rw [upd_ne hip]; exact h1
   ·have h1 := ht'.2 y hy
    rw [sumS_upd _ (by omega)]
    cases hyp : y.set.toNat.testBit p with
    | true => have := hnt y hy hyp; simp only [if_true]; omega
    | false => simp only [Bool.false_eq_true, if_false]; omega
   ·by_cases hip : i = p
    ·subst hip; rw [upd_self, upd_self]; omega
    ·rw [upd_ne hip, upd_ne hip]; exact hw' i hi
   ·rw [sumS_upd _ (by omega), hsp]
    simp only [if_true]
    omega
theorem Lw.liftN (H : Lw h l) {set : Nat} {w : Nat → Int} (hk : Keeps h l (QM set) w) {p : Nat} (hp : p < h.ps.length) (hsp : set.testBit p = true)
  (hlo : ∀ i, i < h.ps.length → loOf h i ≤ w i) (hdone : ∀ y ∈ l, y.lo ≤ sumS w y.set.toNat) : ∀ k : Nat,
  w p + k ≤ hiOf h p → (∀ y ∈ l, y.set.toNat.testBit p = true → sumS w y.set.toNat + k ≤ y.hi) → Keeps h l (QM set) (upd w p (w p + k)) := by
 have hn := H.n8
 intro k
 induction k with
 | zero => intro _ _; rw [show w p + ((0 : Nat) : Int) = w p by omega, upd_same]; exact hk
 | succ k ih =>
  intro h1 h2
  have hih := ih (by omega) (fun y hy hyp => by have := h2 y hy hyp; omega)
  have hge : ∀ i, w i ≤ upd w p (w p + k) i := upd_le (by omega)
  have := H.lift hih hp hsp (fun i hi => Int.le_trans (hlo i hi) (hge i)) (by rw [upd_self]; omega)
   (fun y hy hyp => by rw [sumS_upd _ (by omega), hyp, if_pos rfl]; have := h2 y hy hyp; omega)
   (fun y hy => Int.le_trans (hdone y hy) (sumS_le fun i _ _ => hge i))
  rw [upd_self, upd_upd] at this
  rw [show w p + ((k + 1 : Nat) : Int) = w p + k + 1 by omega]
  exact this
theorem hiOf_le (hps : PsOk h.ps) (i : Nat) : 0 ≤ loOf h i ∧ hiOf h i ≤ 100000 := by
 unfold loOf hiOf
 cases hi : h.ps[i]? with
 | none => simp
 | some p => have := hps p (List.mem_of_getElem? hi); simp only [Option.map_some, Option.getD_some]; omega
theorem Lw.lifts (H : Lw h l) (hps : PsOk h.ps) {set : Nat} {w : Nat → Int} (hk : Keeps h l (QM set) w) (hbox : Box h w) (hdone : ∀ y ∈ l, y.lo ≤ sumS w y.set.toNat) : ∀ k, k ≤ h.ps.length →
  Keeps h l (QM set) (raisedTo h l set w ((h.ps.length : Int) * 100000) k).1 ∧ ((h.ps.length : Int) - k) * 100000 ≤ (raisedTo h l set w ((h.ps.length : Int) * 100000) k).2 ∧
   ∀ q, q < k → set.testBit q = true → Full h l (raisedTo h l set w ((h.ps.length : Int) * 100000) k).1 q := by
 have hn := H.n8
 intro k
 induction k with
 | zero => intro _; exact ⟨hk, by simp only [raisedTo]; omega, fun q hq => by omega⟩
 | succ k ih =>
  intro hkn
  obtain ⟨i1, i2, i3⟩ := ih (by omega)
  have hge := raisedTo_ge h l set w ((h.ps.length : Int) * 100000) k
  have hbx := raisedTo_box l set ((h.ps.length : Int) * 100000) hbox k (by omega)
  rw [raisedTo_succ]
  generalize raisedTo h l set w ((h.ps.length : Int) * 100000) k = r at i1 i2 i3 hge hbx ⊢
  obtain ⟨v, m⟩ := r
  simp only at i1 i2 i3 hge hbx ⊢
  rw [box_iff] at hbx
  cases hb : set.testBit k with
  | false =>
   simp only [Bool.false_eq_true, if_false]
   exact ⟨i1, by omega, fun q hq hbq => i3 q (by
    rcases Nat.lt_or_ge q k with h1 | h1
    ·exact h1
    ·obtain rfl : q = k := by omega
     rw [hb] at hbq; cases hbq) hbq⟩
  | true =>
   simp only [if_true]
   have h0 := roomF_ge h l v k m
   have hup : ∀ i, v i ≤ upd v k (v k + roomF h l v k m) i := upd_le (by omega)
   have hbk := hbx k (by omega)
   have h100 := hiOf_le hps k
   have hr1 : roomF h l v k m ≤ hiOf h k - v k := by
    rcases Int.lt_or_le 0 (roomF h l v k m) with h3 | h3
    ·have := (roomF_le h3).2.1; omega
    ·omega
   refine ⟨?_, by omega, fun q hq hbq => ?_⟩
   ·rcases Int.lt_or_le 0 (roomF h l v k m) with h3 | h3
    ·obtain ⟨r1, r2, r3⟩ := roomF_le h3
     have h4 := H.liftN i1 (p := k) (by omega) hb (fun i hi => (hbx i hi).1) (fun y hy => Int.le_trans (hdone y hy) (sumS_le fun i _ _ => hge i)) (roomF h l v k m).toNat (by omega) (fun y hy hyp => by have := r3 y hy hyp; omega)
     rw [show (((roomF h l v k m).toNat : Nat) : Int) = roomF h l v k m by omega] at h4
     exact h4
    ·rw [show v k + roomF h l v k m = v k by omega, upd_same]; exact i1
   ·by_cases hqk : q = k
    ·subst hqk
     rcases roomF_full h l v (p := q) (by omega) m with h3 | h3
     ·refine .inl ?_
      rw [upd_self]
      have h5 : m ≤ hiOf h q - v q := by omega
      have h6 : (100000 : Int) ≤ m := by
       have : ((h.ps.length : Int) - (q : Int)) * 100000 ≥ 100000 := by omega
       omega
      omega
     ·exact h3
    ·exact (i3 q (by omega) hbq).mono hup
def mostW (h : Hul) (l : List Wgh) (set : Nat) : Nat → Int := raised h l (filled h l set) set ((h.ps.length : Int) * 100000)
def mostRef (h : Hul) (l : List Wgh) (set : Nat) : Int := sumS (mostW h l set) set
theorem Lw.most_is (H : Lw h l) (hps : PsOk h.ps) (hpos : ∀ y ∈ l, 0 < onesN y.set.toNat) (hf : Feas h l) {set : Nat} (hs : set < 2 ^ h.ps.length) : TruthP h l (mostW h l set) ∧ IsMost h l set (mostRef h l set) := by
 obtain ⟨h1, h2⟩ := H.filled_truth hps hpos hf set
 obtain ⟨i1, _, i3⟩ := H.lifts hps (set := set) (w := filled h l set) (fun t ht => by obtain ⟨t', a, b, c⟩ := h2 t ht; exact ⟨t', a, b, c.1⟩) h1.1 (fun y hy => (h1.2 y hy).1) h.ps.length (Nat.le_refl _)
 have hu : (raisedTo h l set (filled h l set) ((h.ps.length : Int) * 100000) h.ps.length).1 = mostW h l set := rfl
 rw [hu] at i1 i3
 have hge : ∀ i, filled h l set i ≤ mostW h l set i := fun i => raised_ge h l (filled h l set) set ((h.ps.length : Int) * 100000) i
 have ht : TruthP h l (mostW h l set) := by
  refine ⟨raised_box l set ((h.ps.length : Int) * 100000) h1.1, fun y hy => ⟨Int.le_trans (h1.2 y hy).1 (sumS_le fun i _ _ => hge i), ?_⟩⟩
  obtain ⟨t, ht⟩ := hf
  obtain ⟨t', ht', hw', _⟩ := i1 t ht
  exact Int.le_trans (sumS_le fun i _ hb => hw' i (bit_lt (H.lt y hy) hb)) (ht'.2 y hy).2
 refine ⟨ht, fun w hw => ?_, _, ht, rfl⟩
 obtain ⟨t', ht', hw', hq⟩ := i1 w hw
 refine Int.le_trans hq (sumS_le fun i _ hb => ?_)
 exact Int.le_of_eq (H.full_eq ht' hw' (bit_lt hs hb) (i3 i (bit_lt hs hb) hb))
def agreesB (l : List Wgh) (w : Nat → Int) : Bool := l.all fun x => decide (x.lo ≤ sumS w x.set.toNat) && decide (sumS w x.set.toNat ≤ x.hi)
theorem agrees_iff {w : Nat → Int} : agreesB l w = true ↔ ∀ x ∈ l, x.lo ≤ sumS w x.set.toNat ∧ sumS w x.set.toNat ≤ x.hi := by
 simp [agreesB, List.all_eq_true]
theorem mostW_box (hps : PsOk h.ps) (set : Nat) : Box h (mostW h l set) := raised_box l set ((h.ps.length : Int) * 100000) (filledTo_box hps set _)
theorem Lw.most_feas (H : Lw h l) (hps : PsOk h.ps) (hpos : ∀ y ∈ l, 0 < onesN y.set.toNat) {set : Nat} (hs : set < 2 ^ h.ps.length) : agreesB l (mostW h l set) = true ↔ Feas h l := by
 constructor
 ·intro ha
  exact ⟨mostW h l set, mostW_box hps set, agrees_iff.1 ha⟩
 ·intro hf
  exact agrees_iff.2 (H.most_is hps hpos hf hs).1.2
theorem ones_pos : ∀ s : Nat, s < 256 → 0 < s → 0 < onesN s := by decide +kernel
theorem lwOk (hp : openPre h l = 0) : Lw h l ∧ PsOk h.ps ∧ ∀ y ∈ l, 0 < onesN y.set.toNat := by
 have hk := hulOk (openPre_zero hp).1
 refine ⟨⟨hk.n8, fun x hx y hy => ?_, fun x hx => ?_⟩, hk.ps, fun y hy => ?_⟩
 ·obtain ⟨i, hi, rfl⟩ := List.getElem_of_mem hx
  obtain ⟨j, hj, rfl⟩ := List.getElem_of_mem hy
  have hl := List.pairwise_iff_getElem.1 (lam_list hp)
  rcases Nat.lt_trichotomy i j with h1 | h1 | h1
  ·exact hl i j hi hj h1
  ·subst h1; exact .inr (.inl fun _ _ h => h)
  ·exact (hl j i hj hi h1).symm
 ·obtain ⟨s, _, _, a3, a4, _⟩ := wghs_ok hp x hx
  rw [a4]; omega
 ·obtain ⟨s, a1, a2, a3, a4, _⟩ := wghs_ok hp y hy
  rw [a4]
  exact ones_pos _ (by omega) (by omega)
end
end Go.Proofs.YtmhjhbchokbonaaGreat
namespace Go.Proofs.YtmhjhbchokbonaaGreat
open Go.RowKit
structure WghsOk (n : Nat) (l : List Wgh) : Prop where
 l6 : l.length ≤ 6
 each : ∀ x ∈ l, ∃ s : Nat, x.set = (s : Int) ∧ s < 2 ^ n ∧ 0 ≤ x.lo ∧ x.lo ≤ x.hi ∧ x.hi ≤ 1000000
theorem wghsOk {h : Hul} {l : List Wgh} (hp : openPre h l = 0) : WghsOk h.ps.length l :=
 ⟨(openPre_zero hp).2.1, fun x hx => by
  obtain ⟨s, _, _, a3, a4, _, a5, a6, a7⟩ := wghs_ok hp x hx
  exact ⟨s, a4, a3, a5, a6, a7⟩⟩
def WtOk (n : Nat) (w : Nat → Int) : Prop := ∀ i, i < n → 0 ≤ w i ∧ w i ≤ 100000
theorem box_wt {h : Hul} (hps : PsOk h.ps) {w : Nat → Int} (hb : Box h w) : WtOk h.ps.length w := fun i hi => by
 have := box_iff.1 hb i hi
 have := hiOf_le hps i
 omega
theorem lt256 {n s : Nat} (hn : n ≤ 8) (hs : s < 2 ^ n) : s < 256 := Nat.lt_of_lt_of_le hs (Nat.pow_le_pow_right (n := 2) (by decide) hn)
theorem sumS_bd {w : Nat → Int} {n s : Nat} (hn : n ≤ 8) (hs : s < 2 ^ n) (hw : WtOk n w) : 0 ≤ sumS w s ∧ sumS w s ≤ 800000 := by
 rw [← sumTo_sumS hn hs]
 have := sumTo_bd2 (w := w) (P := fun i => s.testBit i) n hw
 omega
theorem sumS_any (A : Option Addr) (w : Nat → Int) (n B cap s : Nat) (W : World) (hn : n ≤ 8) (hs : s < 2 ^ n) (hR : Rd1 iv W B A (rowW w n)) (hb : WtOk n w) :
  Calls Tryz.prog 122 #[.slice A n cap, iv s] W fun e W' => e = .returned (iv (sumS w s)) ∧ W' = W := by
 rw [← sumTo_sumS hn hs]
 exact (sum_any A w n B cap s W hn (lt256 hn hs) hR hb).mono fun _ _ h => ⟨h.1, h.2.symm⟩
theorem rowW_on {W W' : World} {B : Nat} {A : Option Addr} {w : Nat → Int} {n : Nat} (h : Rd1 iv W B A (rowW w n)) (hb : Below B W W') : Rd1 iv W' B A (rowW w n) := h.below hb (Nat.le_refl _)
theorem roomTo_bd {h : Hul} {l : List Wgh} (hn : h.ps.length ≤ 8) (hw : WghsOk h.ps.length l) {w : Nat → Int} (hb : WtOk h.ps.length w) (p : Nat) {m : Int} (h0 : -20000000 ≤ m) (h1 : m ≤ 20000000) : ∀ k, -20000000 ≤ roomTo w l p m k ∧ roomTo w l p m k ≤ 20000000 := by
 intro k
 induction k with
 | zero => exact ⟨h0, h1⟩
 | succ k ih =>
  rw [roomTo_succ]
  split
  ·rename_i x hx
   split
   ·obtain ⟨s, a1, a2, a3, a4, a5⟩ := hw.each x (List.mem_of_getElem? hx)
    have := sumS_bd hn a2 hb
    rw [a1, Int.toNat_natCast, Int.min_def]
    split <;> omega
   ·exact ih
  ·exact ih
theorem room_any (h : Hul) (A J : Option Addr) (B cap capJ : Nat) (AL : Option Addr) (l : List Wgh) (capL : Nat) (AW : Option Addr) (wt : Nat → Int) (capW part : Nat) (most : Int) (w : World)
  (hH : HulRd w B h A cap J capJ) (hk : HulOk h) (hL : RdN 3 encWgh w B AL l) (hw : WghsOk h.ps.length l) (hW : Rd1 iv w w.heap.size AW (rowW wt h.ps.length)) (hb : WtOk h.ps.length wt)
  (hp : part < h.ps.length) (hm0 : -10000000 ≤ most) (hm1 : most ≤ 10000000) (hB : B ≤ w.heap.size) :
  Calls Tryz.prog 120 #[hv h A cap J capJ, .slice AL l.length capL, .slice AW h.ps.length capW, iv part, iv most] w (Rt w (iv (roomF h l wt part most))) := by
 obtain ⟨W1, hW1, hb0, hz1, p0, p1, p2, p3, p4⟩ := hulBox w h A cap J capJ
 have hn8 := hk.n8
 have hl6 := hw.l6
 obtain ⟨x, hx⟩ : ∃ x, h.ps[part]? = some x := ⟨_, List.getElem?_eq_getElem hp⟩
 have hxo := hk.ps x (List.mem_of_getElem? hx)
 have hhi : hiOf h part = x.hi := by simp [hiOf, hx]
 obtain ⟨bp, offp, rfl, _, q0, q1, q2⟩ := prtAt (hH.ps.below hb0 hB) hx
 obtain ⟨bw, offw, rfl, _, r0⟩ := rowW_on hW hb0 part (wt part) (rowW_at wt hp)
 have hbp := hb part hp
 have hF : roomF h l wt part most = max 0 (roomTo wt l part (min most (x.hi - wt part)) l.length) := by unfold roomF; rw [hhi]
 obtain ⟨v, hv⟩ := ex (wt part)
 rw [hv] at r0 hbp hF
 have HBD := Lq (roomTo_bd hn8 hw hb part (m := min most (x.hi - v)) (by omega) (by omega))
 have HF := Lq hF
 have HL := Lq (hL.below hb0 hB)
 have HW := Lq (rowW_on hW hb0)
 have HWO := Lq hw
 have HB := Lq hb
 have HB0 := Lq hb0
 have hBz : B ≤ W1.heap.size := Nat.le_trans hB hb0.size
 have hzW : w.heap.size ≤ W1.heap.size := hb0.size
 obtain ⟨N, hN⟩ := ex h.ps.length
 have hpN : part < N := by omega
 obtain ⟨hx0, hx1, hx2⟩ := hxo
 obtain ⟨hv0, hv1⟩ := hbp
 obtain ⟨xn, xlo, xhi⟩ := x
 simp only at q0 q1 q2 hx0 hx1 hx2
 have hd1 : (0 : Int) ≤ (part : Int) := by omega
 rw [hN] at hn8 HW HWO HB p0 hW1 ⊢
 clear hb0 hH hL hw hW hb hhi hx hF hv p1 p2 p3 p4 q0 q1
 go_enter Tryz.func120, Tryz.ntmps120
 go_wp2_with fail
 go_quiet (fail)
 go_wp2_with fail
 clear hW1 p0 q2 r0
 go_loopw [11, 12] (fun vx vi wr => ∃ k : Nat, ∃ m : Int, k ≤ l.length ∧ vi = iv k ∧ vx = iv m ∧ Hid (roomTo wt l part (min most (xhi - v)) k = m) ∧ Hid (BW W1 wr)) (fun _ vi _ => l.length - (intOf vi).toNat)
 case atStart => exact ⟨0, _, Nat.zero_le _, rfl, rfl, Lq (by go_num), Lq (belowN (belowR _) _)⟩
 case round =>
  obtain ⟨k, m, hk, rfl, rfl, HM, HBR⟩ := hrel
  have hbd := HBD.out k
  rw [HM.out] at hbd
  obtain ⟨hm2, hm3⟩ := hbd
  by_cases hlt : k < l.length
  ·obtain ⟨y, hy⟩ : ∃ y, l[k]? = some y := ⟨_, List.getElem?_eq_getElem hlt⟩
   obtain ⟨s, a1, a2, a3, a4, a5⟩ := HWO.out.each y (List.mem_of_getElem? hy)
   obtain ⟨bl, offl, rfl, _, d0, d1, d2⟩ := wghAt (HL.out.below HBR.out hBz) hy
   have hsm := sumS_bd hn8 a2 HB.out
   have hrow := HW.out.below HBR.out hzW
   have hsc : ∀ n, Calls Tryz.prog 122 #[.slice (some ⟨bw, offw, none⟩) N capW, iv s] (wr.drewN n) fun e w' => e = .returned (iv (sumS wt s)) ∧ w' = wr.drewN n := fun n => sumS_any _ wt N _ capW s _ hn8 a2 (hrow.below (belowN (belowR wr) n) (Nat.le_trans hzW HBR.out.size)) HB.out
   have hsu := roomTo_succ wt l part (min most (xhi - v)) k
   rw [hy, HM.out] at hsu
   simp only [a1, Int.toNat_natCast] at hsu
   have hbd2 := HBD.out (k + 1)
   rw [a1] at d0
   obtain ⟨yset, ylo, yhi⟩ := y
   simp only at a3 a4 a5 d0 d1 d2 hsu
   obtain ⟨S, hS⟩ := ex (sumS wt s)
   rw [hS] at hsm hsc hsu
   have hs256 := lt256 hn8 a2
   obtain ⟨hs0, hs1⟩ := hsm
   have HSC := Lq hsc
   have hk0 : (0 : Int) ≤ (k : Int) := by omega
   clear hy hsc hrow hS a1 a2
   cases hbit : s.testBit part
   ·rw [hbit] at hsu
    have HSU := Lq hsu
    have hh : ∀ W, Calls Tryz.prog 87 #[iv s, iv part] W fun e w' => e = .returned (.bool false) ∧ W = w' := fun W => by rw [← hbit]; exact has2_any s part W hs256 (by omega)
    have HH := Lq hh
    clear hsu hbit hh
    go_wp2_with (go_at_call 87; refine (HH.out _).mono ?_; rintro e w' ⟨rfl, rfl⟩)
    go_roundw
    case rel => exact ⟨k + 1, m, by omega, by go_num, rfl, Lq (by rw [HSU.out]; rfl), HBR⟩
    case measure => simp [intOf]; omega
   ·rw [hbit] at hsu
    rw [hsu] at hbd2
    simp only [if_true] at hsu hbd2
    have HSU := Lq hsu
    have hh : ∀ W, Calls Tryz.prog 87 #[iv s, iv part] W fun e w' => e = .returned (.bool true) ∧ W = w' := fun W => by rw [← hbit]; exact has2_any s part W hs256 (by omega)
    have HH := Lq hh
    clear hsu hbit hh
    go_wp2_with (go_at_call 87; refine (HH.out _).mono ?_; rintro e w' ⟨rfl, rfl⟩)
    go_quiet ((go_at_call 122; exact Calls.quiet_of_same (HSC.out _)))
    go_wp2_with fail
    go_roundw
    case rel => exact ⟨k + 1, _, by omega, by go_num, rfl, HSU, Lq (belowN HBR.out _)⟩
    case measure => simp [intOf]; omega
  ·go_wp2_with fail
   go_ret
   obtain rfl : k = l.length := by omega
   exact ⟨by rw [HF.out, HM.out, Int.max_def]; split <;> rfl, belowT HB0.out HBR.out⟩
def lowAt (s k : Nat) : Nat := (s / 2 ^ k * 2 ^ k) &&& (256 - s / 2 ^ k * 2 ^ k)
theorem lowAt_succ : ∀ s : Nat, s < 256 → ∀ k : Nat, k < 8 → lowAt s k = if s.testBit k = true then 2 ^ k else lowAt s (k + 1) := by decide +kernel
theorem lowAt_top {s n : Nat} (hs : s < 2 ^ n) : lowAt s n = 0 := by unfold lowAt; rw [Nat.div_eq_of_lt hs]; simp
theorem lowAt_zero (s : Nat) : lowAt s 0 = s &&& (256 - s) := by unfold lowAt; simp
theorem lowAt_lt {s : Nat} (k : Nat) (hs : s < 256) : lowAt s k < 256 := by
 unfold lowAt
 refine Nat.lt_of_le_of_lt (Nat.le_trans Nat.and_le_left (Nat.div_mul_le_self _ _)) hs
theorem add_bit : ∀ x : Nat, x < 256 → ∀ b : Nat, b < 8 → x.testBit b = false → x + 2 ^ b = x ||| 2 ^ b := by decide +kernel
theorem or_bit : ∀ x : Nat, x < 256 → ∀ b : Nat, b < 8 → x.testBit b = true → x ||| 2 ^ b = x := by decide +kernel
theorem pair_in : ∀ s : Nat, s < 256 → ∀ a : Nat, a < 8 → ∀ b : Nat, b < 8 → ((2 ^ a ||| 2 ^ b) &&& s = 2 ^ a ||| 2 ^ b) = (s.testBit a = true ∧ s.testBit b = true) := by
 intro s hs a ha b hb
 apply propext
 constructor
 ·intro h
  have h1 := congrArg (fun x => x.testBit a) h
  have h2 := congrArg (fun x => x.testBit b) h
  simp only [Nat.testBit_and, Nat.testBit_or, Nat.testBit_two_pow_self, Bool.true_or, Bool.or_true, Bool.true_and] at h1 h2
  exact ⟨h1, h2⟩
 ·rintro ⟨h1, h2⟩
  apply Nat.eq_of_testBit_eq
  intro i
  simp only [Nat.testBit_and, Nat.testBit_or, Nat.testBit_two_pow]
  by_cases ha : a = i
  ·subst ha; simp [h1]
  ·by_cases hb : b = i
   ·subst hb; simp [h2]
   ·simp [ha, hb]
theorem pair_hit (x a b : Nat) : ((2 ^ a ||| 2 ^ b) &&& x ≠ 0) = (x.testBit a = true ∨ x.testBit b = true) := by
 apply propext
 constructor
 ·intro h
  cases h1 : x.testBit a with
  | true => exact .inl rfl
  | false =>
   cases h2 : x.testBit b with
   | true => exact .inr rfl
   | false =>
    refine absurd ?_ h
    apply Nat.eq_of_testBit_eq
    intro i
    simp only [Nat.testBit_and, Nat.testBit_or, Nat.testBit_two_pow, Nat.zero_testBit]
    by_cases ha : a = i
    ·subst ha; simp [h1]
    ·by_cases hb : b = i
     ·subst hb; simp [h2]
     ·simp [ha, hb]
 ·intro h hz
  have e := fun i => congrArg (fun x => x.testBit i) hz
  simp only [Nat.testBit_and, Nat.testBit_or, Nat.testBit_two_pow, Nat.zero_testBit] at e
  rcases h with h | h
  ·have := e a; simp [h] at this
  ·have := e b; simp [h] at this
section
variable {s x a b : Nat}
theorem hstep_out (hs : s < 256) (ha : a < 8) (hb : b < 8) (h : (s.testBit a && s.testBit b) = false) : hstep s x ((a : Int), (b : Int)) = x := by
 unfold hstep pairN
 simp only [Int.toNat_natCast]
 rw [if_neg]
 rw [pair_in s hs a ha b hb]
 rintro ⟨⟨h1, h2⟩, _⟩
 rw [h1, h2] at h
 cases h
theorem hstep_same (hx : x < 256) (ha : a < 8) (hb : b < 8) (h : x.testBit a = x.testBit b) : hstep s x ((a : Int), (b : Int)) = x := by
 unfold hstep pairN
 simp only [Int.toNat_natCast]
 split
 ·rename_i hc
  have h2 := hc.2
  rw [pair_hit] at h2
  have h3 : x.testBit a = true := by
   rcases h2 with h2 | h2
   ·exact h2
   ·rw [h]; exact h2
  rw [← Nat.or_assoc, or_bit x hx a ha h3, or_bit x hx b hb (by rw [← h]; exact h3)]
 ·rfl
theorem hstep_left (hs : s < 256) (hx : x < 256) (ha : a < 8) (hb : b < 8) (h1 : s.testBit a = true) (h2 : s.testBit b = true) (h3 : x.testBit a = true) (h4 : x.testBit b = false) : hstep s x ((a : Int), (b : Int)) = x + 2 ^ b := by
 unfold hstep pairN
 simp only [Int.toNat_natCast]
 rw [if_pos, ← Nat.or_assoc, or_bit x hx a ha h3, add_bit x hx b hb h4]
 rw [pair_in s hs a ha b hb, pair_hit]
 exact ⟨⟨h1, h2⟩, .inl h3⟩
theorem hstep_right (hs : s < 256) (hx : x < 256) (ha : a < 8) (hb : b < 8) (h1 : s.testBit a = true) (h2 : s.testBit b = true) (h3 : x.testBit a = false) (h4 : x.testBit b = true) : hstep s x ((a : Int), (b : Int)) = x + 2 ^ a := by
 unfold hstep pairN
 simp only [Int.toNat_natCast]
 rw [if_pos, Nat.or_comm (2 ^ a), ← Nat.or_assoc, or_bit x hx b hb h4, add_bit x hx a ha h3]
 rw [pair_in s hs a ha b hb, pair_hit]
 exact ⟨⟨h1, h2⟩, .inr h4⟩
end
theorem hangF_eq (js : List (Int × Int)) (s f m : Nat) : hangF js s (f + 1) m = if hround js s m = m then m == s else hangF js s f (hround js s m) := rfl
def measH (vm va : Value) : Nat := match va with
 | .bool true => 2 * (256 - (intOf vm).toNat) + 1
 | _ => 0
theorem refHangs_any (h : Hul) (A J : Option Addr) (B cap capJ s : Nat) (w : World) (hH : HulRd w B h A cap J capJ) (hn1 : 1 ≤ h.ps.length) (hn8 : h.ps.length ≤ 8) (hj : JsOk h.ps.length h.js) (hjl : h.js.length ≤ 12) (hs : s < 2 ^ h.ps.length) (hB : B ≤ w.heap.size) :
  Calls Tryz.prog 119 #[hv h A cap J capJ, iv s] w (Rt w (.bool (hangsB h.js s))) := by
 obtain ⟨W1, hW1, hb0, hzz, p0, p1, p2, p3, p4⟩ := hulBox w h A cap J capJ
 have hs256 : s < 256 := lt256 hn8 hs
 have HLT := Lq (lowAt_top hs)
 have HLS := Lq (lowAt_succ s hs256)
 have HLL := Lq (fun k => lowAt_lt k hs256)
 have hst : hangsB h.js s = hangF h.js s 257 (lowAt s 0) := by rw [lowAt_zero]; rfl
 obtain ⟨R, hR0⟩ := ex (hangsB h.js s)
 rw [hR0] at hst ⊢
 have HST := Lq hst.symm
 have HJ := Lq hj
 have HR := Lq (hH.js.below hb0 hB)
 have HC : Hid (∀ W, BW W1 W → W.cell? ⟨w.heap.size, 1, none⟩ = some (.slice J h.js.length capJ)) := Lq fun W hb => keepC hb p1
 have HB0 := Lq hb0
 have hBz := Nat.le_trans hB hb0.size
 have hpm := hH.pm
 have hjm := hH.jm
 have hpl := hH.pl
 unfold maxLen at hpm hjm
 clear hst hR0 hj hH hb0 hs
 go_enter Tryz.func119, Tryz.ntmps119
 go_wp2_with fail
 clear hW1 p0 p1 p2 p3 p4
 go_loop [5, 6] (fun vm vi => ∃ k m : Nat, k ≤ h.ps.length ∧ vi = iv ((k : Int) - 1) ∧ vm = iv m ∧ Hid (lowAt s k = m)) (fun _ vi => (intOf vi + 1).toNat)
 case atStart => exact ⟨h.ps.length, 0, Nat.le_refl _, by go_num, rfl, HLT⟩
 case round =>
  obtain ⟨k, m, hk, rfl, rfl, HM⟩ := hrel
  have hm := HLL.out k
  rw [HM.out] at hm
  by_cases hlt : 0 < k
  ·obtain ⟨q, rfl⟩ : ∃ q, k = q + 1 := ⟨k - 1, by omega⟩
   have e1 : ((q + 1 : Nat) : Int) - 1 = (q : Int) := by omega
   rw [e1]
   have hsu := HLS.out q (by omega)
   have hq0 : (0 : Int) ≤ (q : Int) := by omega
   cases hbit : s.testBit q
   ·rw [hbit, HM.out] at hsu
    simp only [Bool.false_eq_true, if_false] at hsu
    have HSU := Lq hsu
    clear hsu
    go_wp2_with (go_at_call 87; refine (has2_any _ _ _ hs256 (by omega)).mono ?_; rintro e w' ⟨rfl, rfl⟩)
    go_round
    case rel => exact ⟨q, m, by omega, by go_num, rfl, HSU⟩
    case measure => simp [intOf]
   ·rw [hbit] at hsu
    simp only [if_true] at hsu
    have hp : 2 ^ q ≤ 128 := Nat.pow_le_pow_right (n := 2) (by omega) (show q ≤ 7 by omega)
    have hbi := fun W => bit_any q W (by omega)
    obtain ⟨P, hP⟩ : ∃ P : Nat, 2 ^ q = P := ⟨_, rfl⟩
    rw [hP] at hp hsu hbi
    have HSU := Lq hsu
    have HBI := Lq hbi
    clear hsu hP hbi
    go_wp2_with (first | (go_at_call 87; refine (has2_any _ _ _ hs256 (by omega)).mono ?_; rintro e w' ⟨rfl, rfl⟩) | (go_at_call 9; refine (HBI.out _).mono ?_; rintro e w' ⟨rfl, rfl⟩))
    go_round
    case rel => exact ⟨q, P, by omega, by go_num, rfl, HSU⟩
    case measure => simp [intOf]
  ·obtain rfl : k = 0 := by omega
   have e1 : ((0 : Nat) : Int) - 1 = -1 := rfl
   rw [e1]
   rw [HM.out] at HST
   clear HLT HLS HLL HM
   go_wp2_with fail
   obtain ⟨wq, hwq⟩ : ∃ wq : World, wq = W1 := ⟨_, rfl⟩
   have HBQ : Hid (BW W1 wq) := Lq (by rw [hwq]; exact belowR _)
   rw [← hwq]
   clear hwq
   go_loopw [5, 7] (fun vm va wr => ∃ (m f : Nat) (g : Bool), vm = iv m ∧ va = .bool g ∧ m < 256 ∧ 257 ≤ m + f ∧ Hid (if g = true then hangF h.js s f m = R else (m == s) = R) ∧ Hid (BW W1 wr)) (fun vm va _ => measH vm va)
   case atStart => exact ⟨m, 257, true, rfl, rfl, hm, by omega, Lq (by rw [if_pos rfl]; exact HST.out), HBQ⟩
   case round =>
    clear HST
    obtain ⟨m2, f, g, rfl, rfl, hm2, hmf, HG, HBW⟩ := hrel
    cases g
    ·have hg := HG.out
     simp only [Bool.false_eq_true, if_false] at hg
     have hg2 : ((m2 : Int) == (s : Int)) = R := by
      rw [← hg, Bool.eq_iff_iff]
      simp only [beq_iff_eq]
      omega
     have HG2 := Lq hg2
     clear hg hg2
     go_wp2_with fail
     go_ret
     exact ⟨by rw [← HG2.out]; rfl, belowT HB0.out HBW.out⟩
    ·have hg := HG.out
     simp only [if_true] at hg
     obtain ⟨f, rfl⟩ : ∃ f', f = f' + 1 := ⟨f - 1, by omega⟩
     rw [hangF_eq] at hg
     have HG2 := Lq hg
     have hge := fold_ge s h.js m2
     have hltr := fold_lt hn8 s h.js m2 HJ.out hm2
     have hhr : hround h.js s m2 = h.js.foldl (hstep s) m2 := rfl
     have HHR := Lq hhr
     clear hg HG hhr
     obtain ⟨wa, hwa⟩ : ∃ wa : World, wa = wr := ⟨_, rfl⟩
     have HBA : Hid (BW W1 wa) := Lq (by rw [hwa]; exact HBW.out)
     rw [← hwa]
     clear hwa HBW
     go_wp2_with fail
     go_loopw [5, 7, 8] (fun vx va vi wr => ∃ (k x : Nat), k ≤ h.js.length ∧ vi = iv k ∧ vx = iv x ∧ va = .bool (decide (x ≠ m2)) ∧ x < 256 ∧ m2 ≤ x ∧ Hid ((h.js.take k).foldl (hstep s) m2 = x) ∧ Hid (BW W1 wr)) (fun _ _ vi _ => h.js.length - (intOf vi).toNat)
     case atStart => exact ⟨0, m2, Nat.zero_le _, rfl, rfl, by simp, hm2, Nat.le_refl _, Lq rfl, HBA⟩
     case round =>
      obtain ⟨k, x, hk, rfl, rfl, rfl, hx, hmx, HX, HBW⟩ := hrel
      have c1 := HC.out _ HBW.out
      by_cases hlt : k < h.js.length
      ·obtain ⟨j, hjx⟩ : ∃ j, h.js[k]? = some j := ⟨_, List.getElem?_eq_getElem hlt⟩
       have hjo := HJ.out j (List.mem_of_getElem? hjx)
       have hsn := fold_snoc s h.js m2 k j hjx
       rw [HX.out] at hsn
       obtain ⟨bb, off, rfl, _, d0, d1⟩ := spAt (HR.out.below HBW.out hBz) hjx
       obtain ⟨a, b⟩ := j
       simp only at d0 d1 hjo
       obtain ⟨a, rfl⟩ : ∃ n : Nat, a = n := ⟨a.toNat, by omega⟩
       obtain ⟨b, rfl⟩ : ∃ n : Nat, b = n := ⟨b.toNat, by omega⟩
       have ha8 : a < 8 := by omega
       have hb8 : b < 8 := by omega
       have HSN := Lq hsn
       have hkz : (k : Int) < (h.js.length : Int) := by omega
       have hk0 : (0 : Int) ≤ (k : Int) := by omega
       obtain ⟨AG, hag⟩ := ex (decide (x ≠ m2))
       rw [hag]
       have HAG := Lq hag
       clear hsn hjx hag
       have HH91 : Hid (∀ (s i : Nat) (w : World), s < 256 → i < 8 → Calls Tryz.prog 87 #[iv s, iv i] w fun e w' => e = .returned (.bool (s.testBit i)) ∧ w = w') := Lq fun s i w hs hi => has2_any s i w hs (by omega)
       cases h1 : s.testBit a
       ·have hf : (s.testBit a && s.testBit b) = false := by rw [h1]; rfl
        have HNX : Hid ((h.js.take (k + 1)).foldl (hstep s) m2 = x) := Lq (by rw [HSN.out]; exact hstep_out hs256 ha8 hb8 hf)
        go_wp2_with fail
        go_quiet (fail)
        go_wp2_with (go_at_call 87; refine (HH91.out _ _ _ (by assumption) (by assumption)).mono ?_; rintro e w' ⟨rfl, rfl⟩)
        go_roundw
        case rel => exact ⟨k + 1, x, by omega, by go_num, rfl, by rw [HAG.out], hx, hmx, HNX, Lq (belowN HBW.out _)⟩
        case measure => simp [intOf]; omega
       cases h2 : s.testBit b
       ·have hf : (s.testBit a && s.testBit b) = false := by rw [h1, h2]; rfl
        have HNX : Hid ((h.js.take (k + 1)).foldl (hstep s) m2 = x) := Lq (by rw [HSN.out]; exact hstep_out hs256 ha8 hb8 hf)
        go_wp2_with fail
        go_quiet (fail)
        go_wp2_with (go_at_call 87; refine (HH91.out _ _ _ (by assumption) (by assumption)).mono ?_; rintro e w' ⟨rfl, rfl⟩)
        go_roundw
        case rel => exact ⟨k + 1, x, by omega, by go_num, rfl, by rw [HAG.out], hx, hmx, HNX, Lq (belowN HBW.out _)⟩
        case measure => simp [intOf]; omega
       cases h3 : x.testBit a
       ·cases h4 : x.testBit b
        ·have hf : x.testBit a = x.testBit b := by rw [h3, h4]
         have HNX : Hid ((h.js.take (k + 1)).foldl (hstep s) m2 = x) := Lq (by rw [HSN.out]; exact hstep_same hx ha8 hb8 hf)
         go_wp2_with fail
         go_quiet (fail)
         go_wp2_with (go_at_call 87; refine (HH91.out _ _ _ (by assumption) (by assumption)).mono ?_; rintro e w' ⟨rfl, rfl⟩)
         go_roundw
         case rel => exact ⟨k + 1, x, by omega, by go_num, rfl, by rw [HAG.out], hx, hmx, HNX, Lq (belowN HBW.out _)⟩
         case measure => simp [intOf]; omega
        ·have hnx : (h.js.take (k + 1)).foldl (hstep s) m2 = x + 2 ^ a := by rw [HSN.out]; exact hstep_right hs256 hx ha8 hb8 h1 h2 h3 h4
         have hxl : x + 2 ^ a < 256 := by rw [add_bit x hx a ha8 (by assumption)]; exact or_lt hx (pow_lt ha8)
         have hpp : 0 < 2 ^ a := Nat.pow_pos (by omega)
         have hbi := fun W => bit_any a W (by omega)
         obtain ⟨P, hP⟩ : ∃ P : Nat, 2 ^ a = P := ⟨_, rfl⟩
         rw [hP] at hnx hxl hpp hbi
         have HNX := Lq hnx
         have HBI := Lq hbi
         clear hnx hbi hP
         go_wp2_with fail
         go_quiet (fail)
         go_wp2_with (first | (go_at_call 87; refine (HH91.out _ _ _ (by assumption) (by assumption)).mono ?_; rintro e w' ⟨rfl, rfl⟩) | (go_at_call 9; refine (HBI.out _).mono ?_; rintro e w' ⟨rfl, rfl⟩))
         go_roundw
         case rel => exact ⟨k + 1, x + P, by omega, by go_num, by go_num, by rw [decide_eq_true (by omega)], hxl, by omega, HNX, Lq (belowN HBW.out _)⟩
         case measure => simp [intOf]; omega
       ·cases h4 : x.testBit b
        ·have hnx : (h.js.take (k + 1)).foldl (hstep s) m2 = x + 2 ^ b := by rw [HSN.out]; exact hstep_left hs256 hx ha8 hb8 h1 h2 h3 h4
         have hxl : x + 2 ^ b < 256 := by rw [add_bit x hx b hb8 (by assumption)]; exact or_lt hx (pow_lt hb8)
         have hpp : 0 < 2 ^ b := Nat.pow_pos (by omega)
         have hbi := fun W => bit_any b W (by omega)
         obtain ⟨P, hP⟩ : ∃ P : Nat, 2 ^ b = P := ⟨_, rfl⟩
         rw [hP] at hnx hxl hpp hbi
         have HNX := Lq hnx
         have HBI := Lq hbi
         clear hnx hbi hP
         go_wp2_with fail
         go_quiet (fail)
         go_wp2_with (first | (go_at_call 87; refine (HH91.out _ _ _ (by assumption) (by assumption)).mono ?_; rintro e w' ⟨rfl, rfl⟩) | (go_at_call 9; refine (HBI.out _).mono ?_; rintro e w' ⟨rfl, rfl⟩))
         go_roundw
         case rel => exact ⟨k + 1, x + P, by omega, by go_num, by go_num, by rw [decide_eq_true (by omega)], hxl, by omega, HNX, Lq (belowN HBW.out _)⟩
         case measure => simp [intOf]; omega
        ·have hf : x.testBit a = x.testBit b := by rw [h3, h4]
         have HNX : Hid ((h.js.take (k + 1)).foldl (hstep s) m2 = x) := Lq (by rw [HSN.out]; exact hstep_same hx ha8 hb8 hf)
         go_wp2_with fail
         go_quiet (fail)
         go_wp2_with (go_at_call 87; refine (HH91.out _ _ _ (by assumption) (by assumption)).mono ?_; rintro e w' ⟨rfl, rfl⟩)
         go_roundw
         case rel => exact ⟨k + 1, x, by omega, by go_num, rfl, by rw [HAG.out], hx, hmx, HNX, Lq (belowN HBW.out _)⟩
         case measure => simp [intOf]; omega
      ·obtain rfl : k = h.js.length := by omega
       have hxx := HX.out
       rw [List.take_length] at hxx
       have hhr : hround h.js s m2 = x := hxx
       have hG := HG2.out
       rw [hhr] at hG
       have HGG := Lq hG
       clear hxx hhr hG HX HG2 HHR
       by_cases hxm : x = m2
       ·subst hxm
        have hres : (x == s) = R := by have := HGG.out; rwa [if_pos rfl] at this
        have HRS := Lq hres
        clear hres
        have hfa : decide (x ≠ x) = false := by simp
        rw [hfa]
        go_wp2_with fail
        go_roundw
        case rel => exact ⟨x, f + 1, false, rfl, rfl, hx, by omega, Lq (by rw [if_neg (by simp)]; exact HRS.out), HBW⟩
        case measure => simp [measH]
       ·have hres : hangF h.js s f x = R := by have := HGG.out; rwa [if_neg hxm] at this
        have HRS := Lq hres
        have htr : decide (x ≠ m2) = true := decide_eq_true hxm
        rw [htr]
        clear hres HGG
        go_wp2_with fail
        go_roundw
        case rel => exact ⟨x, f, true, rfl, rfl, hx, by omega, Lq (by rw [if_pos rfl]; exact HRS.out), HBW⟩
        case measure => simp [measH, intOf]; omega
end Go.Proofs.YtmhjhbchokbonaaGreat
