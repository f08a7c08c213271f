/- The contracts of the small functions: ranges of numbers, spans, sets of bits. The contracts of the small functions, continued: spans, sets of bits, turns. -/
import Derived.Test.YtojgdallodmanaaProg
import Derived.WalkLawsBesides
import Derived.WalkSpells
import Derived.Lib.Hide
import Derived.Deep.QuietTactic
import Derived.BigQuiet
import Derived.Test.YtojgdallodmanaaZ6c4919
namespace Go.Proofs.Ytojgdallodmanaa
open Go.RowKit

def inB (lo hi n : Int) : Bool := decide (lo ≤ n ∧ n ≤ hi)
theorem inB_t {lo hi n : Int} (h : inB lo hi n = true) : lo ≤ n ∧ n ≤ hi := by simpa [inB] using h
theorem inB_f {lo hi n : Int} (h : inB lo hi n = false) : ¬ (lo ≤ n ∧ n ≤ hi) := by simpa [inB] using h
theorem inB_mk {lo hi n : Int} (h1 : lo ≤ n) (h2 : n ≤ hi) : inB lo hi n = true := by simp [inB, h1, h2]
theorem inB_no {lo hi n : Int} (h : n < lo ∨ hi < n) : inB lo hi n = false := by simp [inB]; omega

theorem in_any (n lo hi : Int) (w : World) : Calls Try.prog 59 #[.int .i64 n, .int .i64 lo, .int .i64 hi] w fun e w' => e = .returned (.bool (inB lo hi n)) ∧ w = w' := by
  by_cases h1 : lo ≤ n
  · go_enter Try.func59, Try.ntmps59
    go_wp2
    go_ret
    exact ⟨ret_bool (by unfold inB; rw [Bool.eq_iff_iff]; simp; omega), rfl⟩
  · go_enter Try.func59, Try.ntmps59
    go_wp2
    go_ret
    exact ⟨ret_bool (by unfold inB; rw [Bool.eq_iff_iff]; simp; omega), rfl⟩
theorem within_any (n lo hi : Int) (w : World) : Calls Try.prog 121 #[.int .i64 n, .int .i64 lo, .int .i64 hi] w fun e w' => e = .returned (.bool (inB lo hi n)) ∧ w = w' := by
  by_cases h1 : lo ≤ n
  · go_enter Try.func121, Try.ntmps121
    go_wp2
    go_ret
    exact ⟨ret_bool (by unfold inB; rw [Bool.eq_iff_iff]; simp; omega), rfl⟩
  · go_enter Try.func121, Try.ntmps121
    go_wp2
    go_ret
    exact ⟨ret_bool (by unfold inB; rw [Bool.eq_iff_iff]; simp; omega), rfl⟩

theorem out1_any (n lo hi : Int) (a b : Addr) (w : World) (ha : w.cell? a = some (.int .i64 lo)) (hb : w.cell? b = some (.int .i64 hi)) :
    Calls Try.prog 96 #[.int .i64 n, .pointer (some a), .pointer (some b)] w fun e w' => e = .returned (.bool (!inB lo hi n)) ∧ w = w' := by
  by_cases h1 : n < lo
  · go_enter Try.func96, Try.ntmps96
    go_wp2
    go_ret
    exact ⟨ret_bool (by unfold inB; rw [Bool.eq_iff_iff]; simp; omega), rfl⟩
  · go_enter Try.func96, Try.ntmps96
    go_wp2
    go_ret
    exact ⟨ret_bool (by unfold inB; rw [Bool.eq_iff_iff]; simp; omega), rfl⟩

def IdxPost (b : Bool) (w : World) (e : Ending) (w' : World) : Prop := ∃ r : Int, e = .returned (iv r) ∧ decide (0 ≤ r) = b ∧ w = w'

def allIn (lo hi : Int) (xs : List Int) : Bool := xs.all (inB lo hi)
theorem allIn_snoc (lo hi : Int) (xs : List Int) (k : Nat) (x : Int) (hx : xs[k]? = some x) : allIn lo hi (xs.take (k + 1)) = (allIn lo hi (xs.take k) && inB lo hi x) := by
  unfold allIn
  obtain ⟨h, rfl⟩ := List.getElem?_eq_some_iff.1 hx
  rw [List.take_succ_eq_append_getElem h, List.all_append]; simp
theorem allIn_no (lo hi : Int) (xs : List Int) (k : Nat) (x : Int) (hx : xs[k]? = some x) (h : inB lo hi x = false) : allIn lo hi xs = false := by
  unfold allIn
  rw [List.all_eq_false]
  exact ⟨x, List.mem_of_getElem? hx, by simp [h]⟩

set_option maxHeartbeats 400000 in
theorem indexFunc_any (A : Option Addr) (xs : List Int) (B cap : Nat) (lo hi : Int) (a1 a2 : Addr) (w : World) (hm : xs.length ≤ maxLen)
    (hR : Rd1 iv w B A xs) (ha : w.cell? a1 = some (.int .i64 lo)) (hb : w.cell? a2 = some (.int .i64 hi)) :
    Calls Try.prog 119 #[.slice A xs.length cap, .func (.func 96) #[] #[.pointer (some a1), .pointer (some a2)]] w (IdxPost (!allIn lo hi xs) w) := by
  unfold maxLen at hm
  go_enter Try.func119, Try.ntmps119
  go_wp2
  go_loop [8] (fun i => ∃ k : Nat, k ≤ xs.length ∧ i = .int .i64 k ∧ allIn lo hi (xs.take k) = true) (fun i => xs.length - (intOf i).toNat)
  case atStart => exact ⟨0, Nat.zero_le _, rfl, by simp [allIn]⟩
  case round =>
    obtain ⟨k, hk, rfl, hn⟩ := hrel
    by_cases hlt : k < xs.length
    · obtain ⟨x, hx⟩ : ∃ x, xs[k]? = some x := ⟨_, List.getElem?_eq_getElem hlt⟩
      obtain ⟨b, off, rfl, _, hck⟩ := hR k x hx
      have Hx := Lib.hid hx
      clear hx
      by_cases hp : inB lo hi x = true
      · go_wp2_with (go_at_call 96; refine (out1_any _ lo hi _ _ _ ha hb).mono ?_; rintro e w' ⟨rfl, rfl⟩)
        go_round
        case rel => exact ⟨k + 1, by omega, by go_num, by rw [allIn_snoc _ _ _ _ _ Hx.out, hn, hp]; rfl⟩
        case measure => simp [intOf]; omega
      · have hp' : inB lo hi x = false := by simpa using hp
        go_wp2_with (go_at_call 96; refine (out1_any _ lo hi _ _ _ ha hb).mono ?_; rintro e w' ⟨rfl, rfl⟩)
        go_ret
        exact ⟨k, rfl, by rw [allIn_no _ _ _ _ _ Hx.out hp']; simp, rfl⟩
    · go_wp2
      go_ret
      refine ⟨-1, rfl, ?_, rfl⟩
      rw [List.take_of_length_le (by omega)] at hn
      rw [hn]; rfl

theorem containsFunc_any (A : Option Addr) (xs : List Int) (B cap : Nat) (lo hi : Int) (a1 a2 : Addr) (w : World) (hm : xs.length ≤ maxLen)
    (hR : Rd1 iv w B A xs) (ha : w.cell? a1 = some (.int .i64 lo)) (hb : w.cell? a2 = some (.int .i64 hi)) :
    Calls Try.prog 95 #[.slice A xs.length cap, .func (.func 96) #[] #[.pointer (some a1), .pointer (some a2)]] w fun e w' => e = .returned (.bool (!allIn lo hi xs)) ∧ w = w' := by
  go_enter Try.func95, Try.ntmps95
  go_wp2_with (go_at_call 119; refine (indexFunc_any _ xs B cap lo hi _ _ _ hm hR ha hb).mono ?_; rintro e w' ⟨r, rfl, hr, rfl⟩)
  go_ret
  exact ⟨by rw [← hr]; rfl, rfl⟩

theorem out_any (A : Option Addr) (xs : List Int) (B cap : Nat) (lo hi : Int) (w : World) (hm : xs.length ≤ maxLen)
    (hR : Rd1 iv w B A xs) (hB : B ≤ w.heap.size) :
    Calls Try.prog 54 #[.int .i64 lo, .int .i64 hi, .slice A xs.length cap] w fun e w' => e = .returned (.bool (!allIn lo hi xs)) ∧ Below w.heap.size w w' := by
  have hR1 := (hR.alloc hB (.cells #[.int .i64 lo] 3)).alloc (by simp; omega) (.cells #[.int .i64 hi] 3)
  go_enter Try.func54, Try.ntmps54
  go_wp2_with (go_at_call 95; refine (containsFunc_any _ xs B cap lo hi _ _ _ hm hR1 (by go_simp) (by go_simp)).mono ?_; rintro e w' ⟨rfl, rfl⟩)
  go_ret
  exact ⟨rfl, ((Below.refl _ _).alloc (Nat.le_refl _) _).alloc (by simp) _⟩
end Go.Proofs.Ytojgdallodmanaa

namespace Go.Proofs.Ytojgdallodmanaa
open Go.RowKit

theorem out_one (lo hi x : Int) (g : Nat) (w : World) (hc : w.cell? ⟨g, 0, none⟩ = some (.int .i64 x)) (hg : g < w.heap.size) :
    Calls Try.prog 54 #[.int .i64 lo, .int .i64 hi, .slice (some ⟨g, 0, none⟩) 1 1] w fun e w' => e = .returned (.bool (!inB lo hi x)) ∧ Below w.heap.size w w' := by
  have hR : Rd1 iv w w.heap.size (some ⟨g, 0, none⟩) [x] := by
    intro i y hy
    match i, hy with
    | 0, hy => simp at hy; subst hy; exact ⟨g, 0, rfl, hg, hc⟩
  refine (out_any _ [x] w.heap.size 1 lo hi w (by simp [maxLen]) hR (Nat.le_refl _)).mono ?_
  rintro e w' ⟨rfl, hb⟩
  exact ⟨ret_bool (by simp [allIn]), hb⟩
theorem out_two (lo hi x y : Int) (g : Nat) (w : World) (hc : w.cell? ⟨g, 0, none⟩ = some (.int .i64 x)) (hd : w.cell? ⟨g, 1, none⟩ = some (.int .i64 y)) (hg : g < w.heap.size) :
    Calls Try.prog 54 #[.int .i64 lo, .int .i64 hi, .slice (some ⟨g, 0, none⟩) 2 2] w fun e w' => e = .returned (.bool (!(inB lo hi x && inB lo hi y))) ∧ Below w.heap.size w w' := by
  have hR : Rd1 iv w w.heap.size (some ⟨g, 0, none⟩) [x, y] := by
    intro i z hz
    match i, hz with
    | 0, hz => simp at hz; subst hz; exact ⟨g, 0, rfl, hg, hc⟩
    | 1, hz => simp at hz; subst hz; exact ⟨g, 0, rfl, hg, hd⟩
  refine (out_any _ [x, y] w.heap.size 2 lo hi w (by simp [maxLen]) hR (Nat.le_refl _)).mono ?_
  rintro e w' ⟨rfl, hb⟩
  exact ⟨ret_bool (by simp [allIn]), hb⟩

/-- The error of a span: 7 out of its range, 2 turned round, 0 none. -/
def rangeE (L H lo hi : Int) : Int := if inB L H lo && inB L H hi then (if hi < lo then 2 else 0) else 7
theorem rangeE_out {L H lo hi : Int} (h : (inB L H lo && inB L H hi) = false) : rangeE L H lo hi = 7 := by simp [rangeE, h]
theorem rangeE_turned {L H lo hi : Int} (h : (inB L H lo && inB L H hi) = true) (h2 : hi < lo) : rangeE L H lo hi = 2 := by simp only [rangeE, h, if_true, if_pos h2]
theorem rangeE_ok {L H lo hi : Int} (h : (inB L H lo && inB L H hi) = true) (h2 : lo ≤ hi) : rangeE L H lo hi = 0 := by
  simp only [rangeE, h, if_true]; rw [if_neg (by omega)]

theorem spanned_any (L H lo hi : Int) (w : World) :
    Calls Try.prog 57 #[.agg #[.int .i64 lo, .int .i64 hi], .int .i64 L, .int .i64 H] w fun e w' => e = .returned (iv (rangeE L H lo hi)) ∧ Below w.heap.size w w' := by
  cases h : (inB L H lo && inB L H hi)
  · have hf := Lib.hid (rangeE_out h)
    go_enter Try.func57, Try.ntmps57
    go_wp2_with (go_at_call 54; refine (out_two _ _ lo hi _ _ (by go_simp) (by go_simp) (by simp)).mono ?_; rintro e w1 ⟨rfl, hb⟩; obtain ⟨hc, hfr⟩ := bcell hb)
    go_ret
    exact ⟨by rw [hf.out]; rfl, (((Below.refl _ _).alloc (Nat.le_refl _) _).alloc (by simp) _).trans (hb.mono (by simp; omega))⟩
  · by_cases h2 : hi < lo
    · have hf := Lib.hid (rangeE_turned h h2)
      go_enter Try.func57, Try.ntmps57
      go_wp2_with (go_at_call 54; refine (out_two _ _ lo hi _ _ (by go_simp) (by go_simp) (by simp)).mono ?_; rintro e w1 ⟨rfl, hb⟩; obtain ⟨hc, hfr⟩ := bcell hb)
      go_ret
      exact ⟨by rw [hf.out]; rfl, (((Below.refl _ _).alloc (Nat.le_refl _) _).alloc (by simp) _).trans (hb.mono (by simp; omega))⟩
    · have hf := Lib.hid (rangeE_ok h (by omega))
      go_enter Try.func57, Try.ntmps57
      go_wp2_with (go_at_call 54; refine (out_two _ _ lo hi _ _ (by go_simp) (by go_simp) (by simp)).mono ?_; rintro e w1 ⟨rfl, hb⟩; obtain ⟨hc, hfr⟩ := bcell hb)
      go_ret
      exact ⟨by rw [hf.out]; rfl, (((Below.refl _ _).alloc (Nat.le_refl _) _).alloc (by simp) _).trans (hb.mono (by simp; omega))⟩

/-- Spread of one span, at which it lies in one block. -/
theorem spread_one (L H lo hi : Int) (g cap : Nat) (w : World) (h0 : w.cell? ⟨g, 0, none⟩ = some (.int .i64 lo)) (h1 : w.cell? ⟨g, 1, none⟩ = some (.int .i64 hi)) :
    Calls Try.prog 101 #[.slice (some ⟨g, 0, none⟩) 1 cap, .int .i64 L, .int .i64 H] w fun e w' => e = .returned (iv (rangeE L H lo hi)) ∧ ∃ n, w' = w.drewN n := by
  cases h : (inB L H lo && inB L H hi)
  · have hf := Lib.hid (rangeE_out h)
    cases hl : inB L H lo
    · clear h
      go_enter Try.func101, Try.ntmps101
      go_wp2
      refine wp_loop_rounds 1 ?_
      rw [rounds_succ]
      go_wp2_with (go_at_call 121; refine (within_any _ _ _ _).mono ?_; rintro e w' ⟨rfl, rfl⟩)
      go_ret
      exact ⟨by rw [hf.out]; rfl, 0, rfl⟩
    · have hh : inB L H hi = false := by rw [hl] at h; simpa using h
      clear h
      go_enter Try.func101, Try.ntmps101
      go_wp2
      refine wp_loop_rounds 1 ?_
      rw [rounds_succ]
      go_wp2_with (go_at_call 121; refine (within_any _ _ _ _).mono ?_; rintro e w' ⟨rfl, rfl⟩)
      go_ret
      exact ⟨by rw [hf.out]; rfl, 0, rfl⟩
  · obtain ⟨hl, hh⟩ : inB L H lo = true ∧ inB L H hi = true := by simpa using h
    by_cases h2 : hi < lo
    · have hf := Lib.hid (rangeE_turned h h2)
      clear h
      go_enter Try.func101, Try.ntmps101
      go_wp2
      refine wp_loop_rounds 2 ?_
      rw [rounds_succ]
      go_wp2_with (go_at_call 121; refine (within_any _ _ _ _).mono ?_; rintro e w' ⟨rfl, rfl⟩)
      go_quiet (fail)
      go_wp2
      rw [rounds_succ]
      go_wp2
      go_ret
      exact ⟨by rw [hf.out]; rfl, _, rfl⟩
    · have hf := Lib.hid (rangeE_ok h (by omega))
      clear h
      go_enter Try.func101, Try.ntmps101
      go_wp2
      refine wp_loop_rounds 2 ?_
      rw [rounds_succ]
      go_wp2_with (go_at_call 121; refine (within_any _ _ _ _).mono ?_; rintro e w' ⟨rfl, rfl⟩)
      go_quiet (fail)
      go_wp2
      rw [rounds_succ]
      go_wp2
      go_ret
      exact ⟨by rw [hf.out]; rfl, _, rfl⟩

theorem range_any (L H lo hi : Int) (w : World) :
    Calls Try.prog 60 #[.agg #[.int .i64 lo, .int .i64 hi], .int .i64 L, .int .i64 H] w fun e w' => e = .returned (iv (rangeE L H lo hi)) ∧ Below w.heap.size w w' := by
  go_enter Try.func60, Try.ntmps60
  go_wp2_with (go_at_call 101; refine (spread_one L H lo hi _ _ _ (by go_simp) (by go_simp)).mono ?_; rintro e w1 ⟨rfl, n, rfl⟩)
  go_ret
  exact ⟨rfl, belowD (((Below.refl _ _).alloc (Nat.le_refl _) _).alloc (by simp) _) _⟩

theorem span_any (lo hi : Int) (w : World) : Calls Try.prog 38 #[.int .i64 lo, .int .i64 hi] w fun e w' => e = .returned (.agg #[.int .i64 lo, .int .i64 hi]) ∧ Below w.heap.size w w' := by
  go_enter Try.func38, Try.ntmps38
  go_wp2
  exact bodyPost_ret (v := .agg #[.int .i64 lo, .int .i64 hi]) (by simp [results, Try.results38, go_sem]) rfl ⟨rfl, (Below.refl _ _).alloc (Nat.le_refl _) _⟩
def amongI (lo hi n : Int) : Int := lo + n % (hi - lo + 1)
theorem amongI_bd {lo hi n : Int} (h : lo ≤ hi) : lo ≤ amongI lo hi n ∧ amongI lo hi n ≤ hi := by
  unfold amongI
  have h1 := Int.emod_nonneg n (show hi - lo + 1 ≠ 0 by omega)
  have h2 := Int.emod_lt_of_pos n (show 0 < hi - lo + 1 by omega)
  omega
theorem among_any (lo hi n : Int) (w : World) (h0 : 0 ≤ lo) (h1 : lo ≤ hi) (h2 : hi ≤ 1000000000) (hn : 0 ≤ n) (hn2 : n ≤ 4294967295) :
    Calls Try.prog 43 #[.agg #[.int .i64 lo, .int .i64 hi], .int .i64 n] w fun e w' => e = .returned (iv (amongI lo hi n)) ∧ Below w.heap.size w w' := by
  have h5 := Int.emod_nonneg n (show hi - lo + 1 ≠ 0 by omega)
  have h6 := Int.emod_lt_of_pos n (show 0 < hi - lo + 1 by omega)
  have h7 : n % (hi - lo + 1) ≤ 1000000001 := by omega
  go_enter Try.func43, Try.ntmps43
  go_wp2
  go_quiet (fail)
  go_wp2
  go_ret
  exact ⟨rfl, belowD ((Below.refl _ _).alloc (Nat.le_refl _) _) _⟩

/-- Sets of papers, by bits. -/
def hasB (s i : Nat) : Bool := s / 2 ^ i % 2 == 1
def manyN (s n : Nat) : Nat := ((List.range n).filter (hasB s)).length
theorem manyN_succ (s n : Nat) : manyN s (n + 1) = manyN s n + (if hasB s n = true then 1 else 0) := by
  unfold manyN
  rw [List.range_succ, List.filter_append, List.length_append]
  cases h : hasB s n <;> simp [h]
theorem manyN_le (s n : Nat) : manyN s n ≤ n := by
  unfold manyN
  exact Nat.le_trans (List.length_filter_le _ _) (by simp)

theorem bit_any (n : Nat) (w : World) (hn : n ≤ 16) : Calls Try.prog 47 #[.int .i64 n] w fun e w' => e = .returned (iv (2 ^ n : Nat)) ∧ w = w' := by
  go_enter Try.func47, Try.ntmps47
  go_wp2
  go_loop [3, 4] (fun x i => ∃ k : Nat, k ≤ n ∧ i = .int .i64 k ∧ x = .int .i64 (2 ^ k : Nat)) (fun _ i => n - (intOf i).toNat)
  case atStart => exact ⟨0, Nat.zero_le _, rfl, rfl⟩
  case round =>
    obtain ⟨k, hk, rfl, rfl⟩ := hrel
    have hp : (2 ^ k : Nat) ≤ 65536 := Nat.pow_le_pow_right (n := 2) (by omega) (show k ≤ 16 by omega)
    obtain ⟨P, hP⟩ : ∃ P : Nat, P = 2 ^ k := ⟨_, rfl⟩
    rw [← hP] at hp ⊢
    have HP := Lib.hid hP
    clear hP
    by_cases hlt : k < n
    · go_wp2
      go_round
      case rel => exact ⟨k + 1, by omega, by go_num, by rw [Nat.pow_succ, ← HP.out]; push_cast; rw [Int.mul_comm]⟩
      case measure => simp [intOf]; omega
    · go_wp2
      go_ret
      obtain rfl : k = n := by omega
      exact ⟨by rw [HP.out]; rfl, rfl⟩

theorem has_any (s i : Nat) (w : World) (hs : s ≤ 65536) (hi : i ≤ 16) : Calls Try.prog 91 #[.int .i64 s, .int .i64 i] w fun e w' => e = .returned (.bool (hasB s i)) ∧ w = w' := by
  have hp : 0 < 2 ^ i := Nat.pow_pos (by omega)
  have hq : (2 ^ i : Nat) ≤ 65536 := Nat.pow_le_pow_right (n := 2) (by omega) hi
  have hb : hasB s i = (s / 2 ^ i % 2 == 1) := rfl
  obtain ⟨P, hP⟩ : ∃ P : Nat, P = 2 ^ i := ⟨_, rfl⟩
  rw [← hP] at hp hq hb
  have HP := Lib.hid hP
  have HB := Lib.hid hb
  clear hP hb
  have hc : Calls Try.prog 47 #[.int .i64 i] w fun e w' => e = .returned (iv P) ∧ w = w' := by
    rw [HP.out]; exact bit_any i w hi
  have HC := Lib.hid hc
  clear hc
  have h5 : ((s : Int) / (P : Int)) = ((s / P : Nat) : Int) := by simp
  have h6 : (s / P : Nat) ≤ s := Nat.div_le_self _ _
  have h7 : 0 ≤ (s : Int) / (P : Int) := by rw [h5]; exact Int.natCast_nonneg _
  have h8 : (s : Int) / (P : Int) ≤ 65536 := by rw [h5]; exact Int.ofNat_le.2 (Nat.le_trans h6 hs)
  have H5 := Lib.hid h5
  clear h5 h6
  go_enter Try.func91, Try.ntmps91
  go_wp2_with (go_at_call 47; refine HC.out.mono ?_; rintro e w' ⟨rfl, rfl⟩)
  go_ret
  refine ⟨ret_bool ?_, rfl⟩
  show ((s : Int) / (P : Int) % 2 == 1) = _
  rw [HB.out, H5.out, Bool.eq_iff_iff]
  simp
  omega

theorem many_any (s : Nat) (w : World) (hs : s ≤ 65536) : Calls Try.prog 127 #[.int .i64 s] w fun e w' => e = .returned (iv (manyN s 8)) ∧ w = w' := by
  go_enter Try.func127, Try.ntmps127
  go_wp2
  go_loop [3, 4] (fun x i => ∃ k : Nat, k ≤ 8 ∧ i = .int .i64 k ∧ x = .int .i64 (manyN s k)) (fun _ i => 8 - (intOf i).toNat)
  case atStart => exact ⟨0, Nat.zero_le _, rfl, rfl⟩
  case round =>
    obtain ⟨k, hk, rfl, rfl⟩ := hrel
    have hm := manyN_le s k
    by_cases hlt : k < 8
    · have HM := Lib.hid (manyN_succ s k)
      cases hb : hasB s k
      · have HB := Lib.hid hb
        go_wp2_with (go_at_call 91; refine (has_any _ _ _ hs (by omega)).mono ?_; rintro e w' ⟨rfl, rfl⟩)
        go_round
        case rel => exact ⟨k + 1, by omega, by go_num, by rw [HM.out, HB.out]; rfl⟩
        case measure => simp [intOf]; omega
      · have HB := Lib.hid hb
        go_wp2_with (go_at_call 91; refine (has_any _ _ _ hs (by omega)).mono ?_; rintro e w' ⟨rfl, rfl⟩)
        go_round
        case rel => exact ⟨k + 1, by omega, by go_num, by rw [HM.out, HB.out]; rfl⟩
        case measure => simp [intOf]; omega
    · go_wp2
      go_ret
      obtain rfl : k = 8 := by omega
      exact ⟨rfl, rfl⟩

/-- The n-th number of a list, by turns. -/
def turnI (l : List Int) (n : Nat) : Int := l.getD (n % l.length) 0
theorem turnI_bd (l : List Int) (n : Nat) (h : ∀ x ∈ l, 0 ≤ x ∧ x ≤ 4294967295) : 0 ≤ turnI l n ∧ turnI l n ≤ 4294967295 := by
  unfold turnI
  rcases Nat.eq_zero_or_pos l.length with h0 | h0
  · have : l = [] := List.length_eq_zero_iff.1 h0
    subst this; simp
  · have hlt := Nat.mod_lt n h0
    rw [List.getD_eq_getElem?_getD, List.getElem?_eq_getElem hlt]
    exact h _ (List.getElem_mem hlt)

abbrev uv (n : Int) : Value := .int .u32 n
theorem turn_any (A : Option Addr) (l : List Int) (B cap : Nat) (n : Nat) (w : World) (hm : l.length ≤ maxLen) (hR : Rd1 uv w B A l) (hl : ∀ x ∈ l, 0 ≤ x ∧ x ≤ 4294967295) (hn : n ≤ 1000) :
    Calls Try.prog 53 #[.slice A l.length cap, .int .i64 n] w fun e w' => e = .returned (iv (turnI l n)) ∧ w = w' := by
  unfold maxLen at hm
  rcases Nat.eq_zero_or_pos l.length with h0 | h0
  · have hr : turnI l n = 0 := by
      have : l = [] := List.length_eq_zero_iff.1 h0
      subst this; simp [turnI]
    have HR := Lib.hid hr
    clear hr
    rw [h0]
    go_enter Try.func53, Try.ntmps53
    go_wp2
    go_ret
    exact ⟨by rw [HR.out]; rfl, rfl⟩
  · have hlt := Nat.mod_lt n h0
    obtain ⟨x, hx⟩ : ∃ x, l[n % l.length]? = some x := ⟨_, List.getElem?_eq_getElem hlt⟩
    obtain ⟨b, off, rfl, _, hc⟩ := hR _ x hx
    have hb := hl x (List.mem_of_getElem? hx)
    obtain ⟨hb1, hb2⟩ := hb
    have hr : turnI l n = x := by simp [turnI, hx]
    have HR := Lib.hid hr
    have HX := Lib.hid hx
    clear hr hx hl
    have hne : ((l.length : Int) == 0) = false := beq_eq_false_iff_ne.2 (by omega)
    go_enter Try.func53, Try.ntmps53
    go_wp2
    go_ret
    exact ⟨by rw [HR.out]; rfl, rfl⟩
end Go.Proofs.Ytojgdallodmanaa
