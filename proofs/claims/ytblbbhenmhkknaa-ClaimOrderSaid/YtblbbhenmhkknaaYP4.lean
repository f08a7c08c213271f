/- Plain laws: what all claims get, together. No program is walked here. -/
import Derived.Test.YtblbbhenmhkknaaZ38b334
namespace Go.Proofs.Ytblbbhenmhkknaa
open Go.RowKit

def upToF (f : Cl3 → Int) (l : List Cl3) : Nat → Int
  | 0 => 0
  | r + 1 => upToF f l r + sumR f l r
theorem sumR_cons (f : Cl3 → Int) (c : Cl3) (l : List Cl3) (r : Int) : sumR f (c :: l) r = (if c.rank = r then f c else 0) + sumR f l r := by
  unfold sumR; simp
theorem total_ranks (f : Cl3 → Int) : ∀ l : List Cl3, (∀ c ∈ l, 1 ≤ c.rank ∧ c.rank ≤ 5) → (l.map f).sum = upToF f l 6 := by
  intro l
  induction l with
  | nil => intro _; rfl
  | cons c l ih =>
    intro h
    have h1 := ih fun x hx => h x (by simp [hx])
    have hc := h c (by simp)
    simp only [List.map_cons, List.sum_cons]
    rw [h1]
    have e : ∀ r : Int, sumR f (c :: l) r = (if c.rank = r then f c else 0) + sumR f l r := sumR_cons f c l
    simp only [upToF, e]
    rcases (show c.rank = 1 ∨ c.rank = 2 ∨ c.rank = 3 ∨ c.rank = 4 ∨ c.rank = 5 by omega) with k | k | k | k | k <;> rw [k] <;> simp <;> omega
theorem sumR_congr {f g : Cl3 → Int} {l : List Cl3} {r : Int} (h : ∀ c ∈ l, c.rank = r → f c = g c) : sumR f l r = sumR g l r := by
  induction l with
  | nil => rfl
  | cons c l ih =>
    rw [sumR_cons, sumR_cons, ih fun x hx => h x (by simp [hx])]
    by_cases k : c.rank = r
    · rw [if_pos k, if_pos k, h c (by simp) k]
    · rw [if_neg k, if_neg k]
theorem sumR_zero (l : List Cl3) (r : Int) : sumR (fun _ => 0) l r = 0 := by
  induction l with
  | nil => rfl
  | cons c l ih => rw [sumR_cons, ih]; split <;> rfl
theorem sumR_cnt (l : List Cl3) (r : Int) : 0 ≤ sumR (fun _ => 1) l r ∧ sumR (fun _ => 1) l r ≤ l.length := by
  induction l with
  | nil => simp [sumR]
  | cons c l ih =>
    rw [sumR_cons, List.length_cons]
    split <;> omega
/-- Shares, rounded down, together. -/
theorem shares_sum {D S : Int} (hS : 0 < S) (r : Int) : ∀ l : List Cl3, sumR (fun c => D * c.lo / S) l r * S ≤ D * sumR Cl3.lo l r ∧ D * sumR Cl3.lo l r ≤ sumR (fun c => D * c.lo / S) l r * S + sumR (fun _ => 1) l r * (S - 1) := by
  intro l
  induction l with
  | nil => simp [sumR]
  | cons c l ih =>
    rw [sumR_cons, sumR_cons, sumR_cons]
    by_cases k : c.rank = r
    · rw [if_pos k, if_pos k, if_pos k]
      have h1 : D * c.lo / S * S ≤ D * c.lo := Int.ediv_mul_le _ (by omega)
      have h2 : D * c.lo < (D * c.lo / S + 1) * S := Int.lt_ediv_add_one_mul_self _ hS
      obtain ⟨q, hq⟩ : ∃ q, D * c.lo / S = q := ⟨_, rfl⟩
      rw [hq] at h1 h2 ⊢
      obtain ⟨T, hT⟩ : ∃ T, sumR (fun c => D * c.lo / S) l r = T := ⟨_, rfl⟩
      rw [hT] at ih ⊢
      have e1 : (q + T) * S = q * S + T * S := Int.add_mul _ _ _
      have e2 : D * (c.lo + sumR Cl3.lo l r) = D * c.lo + D * sumR Cl3.lo l r := Int.mul_add _ _ _
      have e3 : (q + 1) * S = q * S + S := by rw [Int.add_mul, Int.one_mul]
      have e4 : (1 + sumR (fun _ => 1) l r) * (S - 1) = (S - 1) + sumR (fun _ => 1) l r * (S - 1) := by rw [Int.add_mul, Int.one_mul]
      rw [e1, e2, e4]
      omega
    · rw [if_neg k, if_neg k, if_neg k]
      simp only [Int.zero_add]
      exact ih
theorem upToR_step (l : List Cl3) (hok : C3Ok l) (r : Nat) : upToR l r ≤ upToR l (r + 1) := by
  have := (sumR_bound (f := Cl3.lo) l r fun x hx => ⟨(hok x hx).2.2.1, (hok x hx).2.2.2.1⟩).1
  simp only [upToR]; omega
theorem upToR_mono (l : List Cl3) (hok : C3Ok l) : ∀ d q, upToR l q ≤ upToR l (q + d) := by
  intro d
  induction d with
  | zero => intro q; exact Int.le_refl _
  | succ d ih => intro q; exact Int.le_trans (ih q) (upToR_step l hok (q + d))
/-- What the claims of one rank get. -/
theorem rank_full {l : List Cl3} {P : Int} {r : Nat} (h : upToR l (r + 1) ≤ P) : sumR (payAt l P) l r = sumR Cl3.lo l r :=
  sumR_congr fun c _ hc => payAt_full (by omega) (by rw [hc]; simpa using h)
theorem rank_none {l : List Cl3} {P : Int} {r : Nat} (h : P < upToR l r) (hok : C3Ok l) : sumR (payAt l P) l r = 0 := by
  rw [sumR_congr (g := fun _ => 0) fun c _ hcr => ?_, sumR_zero]
  have := (sumR_bound (f := Cl3.lo) l r fun x hx => ⟨(hok x hx).2.2.1, (hok x hx).2.2.2.1⟩).1
  unfold payAt
  rw [hcr, Int.toNat_natCast, if_neg (by omega), if_neg (by omega)]
theorem upToF_full {l : List Cl3} {P : Int} (hok : C3Ok l) : ∀ r : Nat, upToR l r ≤ P → upToF (payAt l P) l r = upToR l r := by
  intro r
  induction r with
  | zero => intro _; rfl
  | succ r ih =>
    intro h
    have := upToR_step l hok r
    simp only [upToF]
    rw [ih (by omega), rank_full h]
    rfl
theorem upToF_after {l : List Cl3} {P : Int} (hok : C3Ok l) (r : Nat) (h : P < upToR l (r + 1)) : ∀ d : Nat, upToF (payAt l P) l (r + 1 + d) = upToF (payAt l P) l (r + 1) := by
  intro d
  induction d with
  | zero => rfl
  | succ d ih =>
    have e : upToF (payAt l P) l (r + 1 + (d + 1)) = upToF (payAt l P) l (r + 1 + d) + sumR (payAt l P) l ((r + 1 + d : Nat) : Int) := rfl
    have hm := upToR_mono l hok d (r + 1)
    rw [e, ih, rank_none (by omega) hok, Int.add_zero]
/-- The proceeds run out at some rank, or they don't. -/
theorem rank_out {l : List Cl3} {P : Int} (hP : 0 ≤ P) : ∀ n : Nat, upToR l n ≤ P ∨ ∃ r, r < n ∧ upToR l r ≤ P ∧ P < upToR l (r + 1) := by
  intro n
  induction n with
  | zero => exact .inl hP
  | succ n ih =>
    rcases ih with h | ⟨r, h1, h2, h3⟩
    · by_cases k : upToR l (n + 1) ≤ P
      · exact .inl k
      · exact .inr ⟨n, by omega, h, by omega⟩
    · exact .inr ⟨r, by omega, h2, h3⟩
theorem pays_total {l : List Cl3} {P : Int} (hok : C3Ok l) (hP : 0 ≤ P) : (pays l P).sum ≤ P ∧ (upToR l 6 ≤ P ∨ P - (pays l P).sum < l.length) := by
  have ht := total_ranks (payAt l P) l fun c hc => ⟨(hok c hc).1, (hok c hc).2.1⟩
  unfold pays
  rw [ht]
  rcases rank_out (l := l) hP 6 with h | ⟨r, hr, h1, h2⟩
  · rw [upToF_full hok 6 h]
    exact ⟨h, .inl h⟩
  · have ha := upToF_after hok r h2 (5 - r)
    rw [show r + 1 + (5 - r) = 6 from by omega] at ha
    have hf := upToF_full hok r h1
    have e : upToF (payAt l P) l (r + 1) = upToF (payAt l P) l r + sumR (payAt l P) l r := rfl
    obtain ⟨S, hS⟩ : ∃ S, sumR Cl3.lo l (r : Int) = S := ⟨_, rfl⟩
    have eU : upToR l (r + 1) = upToR l r + S := by rw [← hS]; rfl
    obtain ⟨U, hU⟩ : ∃ U, upToR l r = U := ⟨_, rfl⟩
    have hS0 : 0 < S := by omega
    have hg : sumR (payAt l P) l r = sumR (fun c => (P - U) * c.lo / S) l r := sumR_congr fun c _ hcr => by
      unfold payAt
      rw [hcr, Int.toNat_natCast, hU, hS, if_neg (by omega), if_pos (by omega)]
    have hs := shares_sum (D := P - U) hS0 (r : Int) l
    have hcnt := sumR_cnt l (r : Int)
    rw [hS] at hs
    obtain ⟨T, hT⟩ : ∃ T, sumR (fun c => (P - U) * c.lo / S) l (r : Int) = T := ⟨_, rfl⟩
    obtain ⟨N, hN⟩ : ∃ N, sumR (fun _ => 1) l (r : Int) = N := ⟨_, rfl⟩
    rw [hT] at hs hg
    rw [hN] at hs hcnt
    have hTD : T ≤ P - U := Int.le_of_mul_le_mul_right hs.1 hS0
    have hN0 : 0 < N := by
      rcases (show N = 0 ∨ 0 < N by omega) with k | k
      · exfalso
        rw [k, Int.zero_mul, Int.add_zero] at hs
        have : P - U ≤ T := Int.le_of_mul_le_mul_right hs.2 hS0
        have hTN : sumR Cl3.lo l (r : Int) = 0 := by
          have key : ∀ l' : List Cl3, sumR (fun _ => 1) l' (r : Int) = 0 → sumR Cl3.lo l' (r : Int) = 0 := by
            intro l'
            induction l' with
            | nil => intro _; rfl
            | cons c l' ih =>
              intro h
              rw [sumR_cons] at h ⊢
              have := (sumR_cnt l' (r : Int)).1
              by_cases kk : c.rank = r
              · rw [if_pos kk] at h; omega
              · rw [if_neg kk] at h ⊢; rw [ih (by omega)]; rfl
          exact key l (by rw [hN]; exact k)
        omega
      · exact k
    have hlt : P - U - T < N := by
      have e2 : N * (S - 1) = N * S - N := by rw [Int.mul_sub, Int.mul_one]
      have e3 : (P - U - T) * S = (P - U) * S - T * S := Int.sub_mul _ _ _
      have : (P - U - T) * S < N * S := by omega
      exact Int.lt_of_mul_lt_mul_right this (by omega)
    refine ⟨by omega, .inr (by omega)⟩
/-- Who is not paid in full: the proceeds have run out at that rank. -/
theorem short_out {l : List Cl3} {P : Int} {c : Cl3} (h0 : 0 ≤ c.rank) (h : payAt l P c < c.lo) : P < upToR l (c.rank.toNat + 1) := by
  rcases (show upToR l (c.rank.toNat + 1) ≤ P ∨ P < upToR l (c.rank.toNat + 1) by omega) with k | k
  · rw [payAt_full h0 k] at h; omega
  · exact k
/-- Then later ranks get nothing. -/
theorem later_none {l : List Cl3} {P : Int} {c d : Cl3} (hok : C3Ok l) (h0 : 0 ≤ c.rank) (h : payAt l P c < c.lo) (hr : c.rank < d.rank) : payAt l P d = 0 := by
  have h1 := short_out h0 h
  have h2 := upToR_mono l hok (d.rank.toNat - (c.rank.toNat + 1)) (c.rank.toNat + 1)
  rw [show c.rank.toNat + 1 + (d.rank.toNat - (c.rank.toNat + 1)) = d.rank.toNat from by omega] at h2
  have h3 := (sumR_bound (f := Cl3.lo) l d.rank fun x hx => ⟨(hok x hx).2.2.1, (hok x hx).2.2.2.1⟩).1
  unfold payAt
  rw [if_neg (by omega), if_neg (by omega)]
theorem short_rest {l : List Cl3} {P : Int} {c : Cl3} (hok : C3Ok l) (hP : 0 ≤ P) (hc : c ∈ l) (h : payAt l P c < c.lo) : P - (pays l P).sum < l.length := by
  have hr := hok c hc
  rcases (pays_total hok hP).2 with k | k
  · exfalso
    have h1 := short_out (by omega) h
    have h2 := upToR_mono l hok (6 - (c.rank.toNat + 1)) (c.rank.toNat + 1)
    rw [show c.rank.toNat + 1 + (6 - (c.rank.toNat + 1)) = 6 from by omega] at h2
    omega
  · exact k
end Go.Proofs.Ytblbbhenmhkknaa
