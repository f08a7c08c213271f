/- The contracts of the reference's small functions on sets and weights: in, sum, Common, all. -/
import Derived.Test.YtojgdallodmanaaZ82b5b8
namespace Go.Proofs.Ytojgdallodmanaa
open Go.RowKit

theorem hasB_bit (s i : Nat) : hasB s i = s.testBit i := by
  unfold hasB
  rw [Nat.testBit_eq_decide_div_mod_eq]
  rw [Bool.eq_iff_iff]
  simp
theorem manyN_ones (s : Nat) : manyN s 8 = onesN s := by
  unfold manyN onesN
  congr 1
  apply List.filter_congr
  intro i _
  exact hasB_bit s i
theorem many2_any (s : Nat) (w : World) (hs : s < 256) : Calls Try.prog 127 #[.int .i64 s] w fun e w' => e = .returned (iv (onesN s)) ∧ w = w' := by
  rw [← manyN_ones]; exact many_any s w (by omega)
theorem has2_any (s i : Nat) (w : World) (hs : s < 256) (hi : i ≤ 16) : Calls Try.prog 91 #[.int .i64 s, .int .i64 i] w fun e w' => e = .returned (.bool (s.testBit i)) ∧ w = w' := by
  rw [← hasB_bit]; exact has_any s i w (by omega) hi

/-- Weights as a row. -/
def rowW (w : Nat → Int) (n : Nat) : List Int := (List.range n).map w
theorem rowW_len (w : Nat → Int) (n : Nat) : (rowW w n).length = n := by simp [rowW]
theorem rowW_at (w : Nat → Int) {n i : Nat} (h : i < n) : (rowW w n)[i]? = some (w i) := by simp [rowW, h]
theorem rowW_succ (w : Nat → Int) (n : Nat) : rowW w (n + 1) = rowW w n ++ [w n] := by simp [rowW, List.range_succ]
theorem sumTo_bd2 {w : Nat → Int} {P : Nat → Bool} : ∀ k, (∀ i, i < k → 0 ≤ w i ∧ w i ≤ 100000) → 0 ≤ sumTo w P k ∧ sumTo w P k ≤ 100000 * (k : Int) := by
  intro k
  induction k with
  | zero => intro _; simp [sumTo]
  | succ k ih =>
    intro hw
    have := ih (fun i hi => hw i (by omega))
    have h2 := hw k (by omega)
    simp only [sumTo]
    cases hk : P k with
    | true => simp only [if_true]; omega
    | false => simp only [Bool.false_eq_true, if_false]; omega
theorem sumTo_t {w : Nat → Int} {P : Nat → Bool} {k : Nat} (h : P k = true) : sumTo w P (k + 1) = sumTo w P k + w k := by simp [sumTo, h]
theorem sumTo_f {w : Nat → Int} {P : Nat → Bool} {k : Nat} (h : P k = false) : sumTo w P (k + 1) = sumTo w P k := by simp [sumTo, h]
theorem sumTo_more {w : Nat → Int} {P : Nat → Bool} {n : Nat} (h : ∀ i, n ≤ i → P i = false) : ∀ k, sumTo w P (n + k) = sumTo w P n := by
  intro k
  induction k with
  | zero => rfl
  | succ k ih => rw [← Nat.add_assoc, sumTo_f (h _ (by omega)), ih]
theorem sumTo_sumS {w : Nat → Int} {s n : Nat} (hn : n ≤ 8) (hs : s < 2 ^ n) : sumTo w (fun i => s.testBit i) n = sumS w s := by
  have := sumTo_more (w := w) (P := fun i => s.testBit i) (n := n) (fun i hi => Nat.testBit_lt_two_pow (Nat.lt_of_lt_of_le hs (Nat.pow_le_pow_right (by decide) hi))) (8 - n)
  rw [show n + (8 - n) = 8 by omega] at this
  exact this.symm

theorem sum_any (A : Option Addr) (w : Nat → Int) (n B cap s : Nat) (W : World) (hn : n ≤ 8) (hs : s < 256) (hR : Rd1 iv W B A (rowW w n)) (hb : ∀ i, i < n → 0 ≤ w i ∧ w i ≤ 100000) :
    Calls Try.prog 78 #[.slice A n cap, .int .i64 s] W fun e W' => e = .returned (iv (sumTo w (fun i => s.testBit i) n)) ∧ W = W' := by
  have HB := Lib.hid hb
  have HR := Lib.hid hR
  clear hb hR
  go_enter Try.func78, Try.ntmps78
  go_wp2
  go_loop [5, 6] (fun x i => ∃ k : Nat, ∃ v : Int, k ≤ n ∧ i = .int .i64 k ∧ x = .int .i64 v ∧ 0 ≤ v ∧ v ≤ 100000 * k ∧ Hid (sumTo w (fun i => s.testBit i) k = v)) (fun _ i => n - (intOf i).toNat)
  case atStart => exact ⟨0, 0, Nat.zero_le _, rfl, rfl, by omega, by omega, Lib.hid rfl⟩
  case round =>
    obtain ⟨k, v, hk, rfl, rfl, hv0, hv1, HV⟩ := hrel
    by_cases hlt : k < n
    · obtain ⟨b, off, rfl, _, hc⟩ := HR.out k (w k) (rowW_at w hlt)
      have hwk := HB.out k hlt
      obtain ⟨x, hx⟩ : ∃ x, w k = x := ⟨_, rfl⟩
      rw [hx] at hc hwk
      have HX := Lib.hid hx
      clear hx
      obtain ⟨hw0, hw1⟩ := hwk
      cases hbit : s.testBit k
      · have HBIT := Lib.hid hbit
        go_wp2_with (go_at_call 91; refine (has2_any _ _ _ hs (by omega)).mono ?_; rintro e w' ⟨rfl, rfl⟩)
        go_round
        case rel => exact ⟨k + 1, v, by omega, by go_num, rfl, hv0, by omega, Lib.hid (by rw [sumTo_f (P := fun i => s.testBit i) HBIT.out, HV.out])⟩
        case measure => simp [intOf]; omega
      · have HBIT := Lib.hid hbit
        go_wp2_with (go_at_call 91; refine (has2_any _ _ _ hs (by omega)).mono ?_; rintro e w' ⟨rfl, rfl⟩)
        go_round
        case rel => exact ⟨k + 1, v + x, by omega, by go_num, rfl, by omega, by omega, Lib.hid (by rw [sumTo_t (P := fun i => s.testBit i) HBIT.out, HV.out, HX.out])⟩
        case measure => simp [intOf]; omega
    · go_wp2
      go_ret
      obtain rfl : k = n := by omega
      exact ⟨by rw [HV.out]; rfl, rfl⟩
theorem weight_any (A : Option Addr) (w : Nat → Int) (n B cap s : Nat) (W : World) (hn : n ≤ 8) (hs : s < 256) (hR : Rd1 iv W B A (rowW w n)) (hb : ∀ i, i < n → 0 ≤ w i ∧ w i ≤ 100000) :
    Calls Try.prog 44 #[.slice A n cap, .int .i64 s] W fun e W' => e = .returned (iv (sumTo w (fun i => s.testBit i) n)) ∧ W = W' := by
  have HB := Lib.hid hb
  have HR := Lib.hid hR
  clear hb hR
  go_enter Try.func44, Try.ntmps44
  go_wp2
  go_loop [5, 6] (fun x i => ∃ k : Nat, ∃ v : Int, k ≤ n ∧ i = .int .i64 k ∧ x = .int .i64 v ∧ 0 ≤ v ∧ v ≤ 100000 * k ∧ Hid (sumTo w (fun i => s.testBit i) k = v)) (fun _ i => n - (intOf i).toNat)
  case atStart => exact ⟨0, 0, Nat.zero_le _, rfl, rfl, by omega, by omega, Lib.hid rfl⟩
  case round =>
    obtain ⟨k, v, hk, rfl, rfl, hv0, hv1, HV⟩ := hrel
    by_cases hlt : k < n
    · obtain ⟨b, off, rfl, _, hc⟩ := HR.out k (w k) (rowW_at w hlt)
      have hwk := HB.out k hlt
      obtain ⟨x, hx⟩ : ∃ x, w k = x := ⟨_, rfl⟩
      rw [hx] at hc hwk
      have HX := Lib.hid hx
      clear hx
      obtain ⟨hw0, hw1⟩ := hwk
      cases hbit : s.testBit k
      · have HBIT := Lib.hid hbit
        go_wp2_with (go_at_call 91; refine (has2_any _ _ _ hs (by omega)).mono ?_; rintro e w' ⟨rfl, rfl⟩)
        go_round
        case rel => exact ⟨k + 1, v, by omega, by go_num, rfl, hv0, by omega, Lib.hid (by rw [sumTo_f (P := fun i => s.testBit i) HBIT.out, HV.out])⟩
        case measure => simp [intOf]; omega
      · have HBIT := Lib.hid hbit
        go_wp2_with (go_at_call 91; refine (has2_any _ _ _ hs (by omega)).mono ?_; rintro e w' ⟨rfl, rfl⟩)
        go_round
        case rel => exact ⟨k + 1, v + x, by omega, by go_num, rfl, by omega, by omega, Lib.hid (by rw [sumTo_t (P := fun i => s.testBit i) HBIT.out, HV.out, HX.out])⟩
        case measure => simp [intOf]; omega
    · go_wp2
      go_ret
      obtain rfl : k = n := by omega
      exact ⟨by rw [HV.out]; rfl, rfl⟩

/-- The first parts that two sets have in common. -/
def commonTo (a b : Nat) : Nat → Nat
  | 0 => 0
  | k + 1 => if a.testBit k && b.testBit k then commonTo a b k + 2 ^ k else commonTo a b k
theorem commonTo_is (a b : Nat) : ∀ k, commonTo a b k = (a &&& b) % 2 ^ k := by
  intro k
  induction k with
  | zero => simp [commonTo, Nat.mod_one]
  | succ k ih =>
    unfold commonTo
    rw [ih, Nat.mod_pow_succ, ← Nat.testBit_and, Nat.testBit_eq_decide_div_mod_eq]
    rcases Nat.mod_two_eq_zero_or_one ((a &&& b) / 2 ^ k) with h | h
    · rw [h]; simp
    · rw [h]; simp
theorem commonTo_all {a b : Nat} (ha : a < 256) : commonTo a b 8 = a &&& b := by
  rw [commonTo_is]
  exact Nat.mod_eq_of_lt (Nat.lt_of_le_of_lt Nat.and_le_left ha)
theorem common_any (a b : Nat) (W : World) (ha : a < 256) (hb : b < 256) : Calls Try.prog 118 #[.int .i64 a, .int .i64 b] W fun e W' => e = .returned (iv (a &&& b : Nat)) ∧ W = W' := by
  rw [← commonTo_all ha]
  have hlt : ∀ k, commonTo a b k ≤ 255 := fun k => by
    rw [commonTo_is]
    have := Nat.mod_le (a &&& b) (2 ^ k)
    have h2 : a &&& b ≤ a := Nat.and_le_left
    omega
  have HLT := Lib.hid hlt
  clear hlt
  go_enter Try.func118, Try.ntmps118
  go_wp2
  go_loop [5, 6] (fun x i => ∃ k v : Nat, k ≤ 8 ∧ i = .int .i64 k ∧ x = .int .i64 v ∧ v ≤ 255 ∧ Hid (commonTo a b k = v)) (fun _ i => 8 - (intOf i).toNat)
  case atStart => exact ⟨0, 0, Nat.zero_le _, rfl, rfl, by omega, Lib.hid rfl⟩
  case round =>
    obtain ⟨k, v, hk, rfl, rfl, hv, HV⟩ := hrel
    by_cases hlt : k < 8
    · cases h1 : a.testBit k
      · have H1 := Lib.hid h1
        go_wp2_with (go_at_call 91; refine (has2_any _ _ _ (by assumption) (by omega)).mono ?_; rintro e w' ⟨rfl, rfl⟩)
        go_round
        case rel => exact ⟨k + 1, v, by omega, by go_num, rfl, hv, Lib.hid (by unfold commonTo; rw [H1.out, HV.out]; rfl)⟩
        case measure => simp [intOf]; omega
      · have H1 := Lib.hid h1
        cases h2 : b.testBit k
        · have H2 := Lib.hid h2
          go_wp2_with (go_at_call 91; refine (has2_any _ _ _ (by assumption) (by omega)).mono ?_; rintro e w' ⟨rfl, rfl⟩)
          go_round
          case rel => exact ⟨k + 1, v, by omega, by go_num, rfl, hv, Lib.hid (by unfold commonTo; rw [H1.out, H2.out, HV.out]; rfl)⟩
          case measure => simp [intOf]; omega
        · have H2 := Lib.hid h2
          have hp : 2 ^ k ≤ 128 := Nat.pow_le_pow_right (n := 2) (by omega) (show k ≤ 7 by omega)
          have h3 : commonTo a b (k + 1) = v + 2 ^ k := by unfold commonTo; rw [H1.out, H2.out, HV.out]; rfl
          have h4 := HLT.out (k + 1)
          rw [h3] at h4
          have H3 := Lib.hid h3
          clear h3
          have hbit := bit_any k W (by omega)
          obtain ⟨P, hP⟩ : ∃ P : Nat, 2 ^ k = P := ⟨_, rfl⟩
          rw [hP] at hp h4 hbit H3
          have HBIT := Lib.hid hbit
          clear hP hbit
          go_wp2_with (first | (go_at_call 91; refine (has2_any _ _ _ (by assumption) (by omega)).mono ?_; rintro e w' ⟨rfl, rfl⟩) | (go_at_call 47; refine HBIT.out.mono ?_; rintro e w' ⟨rfl, rfl⟩))
          go_round
          case rel => exact ⟨k + 1, v + P, by omega, by go_num, by go_num, by omega, H3⟩
          case measure => simp [intOf]; omega
    · go_wp2
      go_ret
      obtain rfl : k = 8 := by omega
      exact ⟨by rw [HV.out]; rfl, rfl⟩
end Go.Proofs.Ytojgdallodmanaa
