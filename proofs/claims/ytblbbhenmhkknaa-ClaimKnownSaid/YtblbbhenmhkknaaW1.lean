/- The contracts of the small functions: ranges of numbers, spans, sets of bits. -/
import Derived.Test.YtblbbhenmhkknaaProg
import Derived.Test.YtblbbhenmhkknaaMem
import Derived.WalkLawsBesides
import Derived.WalkSpells
import Derived.Lib.Hide
import Derived.Deep.QuietTactic
import Derived.BigQuiet
namespace Go.Proofs.Ytblbbhenmhkknaa
open Go.RowKit

def inB (lo hi n : Int) : Bool := decide (lo ≤ n ∧ n ≤ hi)
theorem inB_t {lo hi n : Int} (h : inB lo hi n = true) : lo ≤ n ∧ n ≤ hi := by simpa [inB] using h
theorem inB_f {lo hi n : Int} (h : inB lo hi n = false) : ¬ (lo ≤ n ∧ n ≤ hi) := by simpa [inB] using h
theorem inB_mk {lo hi n : Int} (h1 : lo ≤ n) (h2 : n ≤ hi) : inB lo hi n = true := by simp [inB, h1, h2]
theorem inB_no {lo hi n : Int} (h : n < lo ∨ hi < n) : inB lo hi n = false := by simp [inB]; omega

theorem in_any (n lo hi : Int) (w : World) : Calls Try.prog 57 #[.int .i64 n, .int .i64 lo, .int .i64 hi] w fun e w' => e = .returned (.bool (inB lo hi n)) ∧ w = w' := by
  by_cases h1 : lo ≤ n
  · go_enter Try.func57, Try.ntmps57
    go_wp2
    go_ret
    exact ⟨ret_bool (by unfold inB; rw [Bool.eq_iff_iff]; simp; omega), rfl⟩
  · go_enter Try.func57, Try.ntmps57
    go_wp2
    go_ret
    exact ⟨ret_bool (by unfold inB; rw [Bool.eq_iff_iff]; simp; omega), rfl⟩
theorem within_any (n lo hi : Int) (w : World) : Calls Try.prog 92 #[.int .i64 n, .int .i64 lo, .int .i64 hi] w fun e w' => e = .returned (.bool (inB lo hi n)) ∧ w = w' := by
  by_cases h1 : lo ≤ n
  · go_enter Try.func92, Try.ntmps92
    go_wp2
    go_ret
    exact ⟨ret_bool (by unfold inB; rw [Bool.eq_iff_iff]; simp; omega), rfl⟩
  · go_enter Try.func92, Try.ntmps92
    go_wp2
    go_ret
    exact ⟨ret_bool (by unfold inB; rw [Bool.eq_iff_iff]; simp; omega), rfl⟩

theorem out1_any (n lo hi : Int) (a b : Addr) (w : World) (ha : w.cell? a = some (.int .i64 lo)) (hb : w.cell? b = some (.int .i64 hi)) :
    Calls Try.prog 91 #[.int .i64 n, .pointer (some a), .pointer (some b)] w fun e w' => e = .returned (.bool (!inB lo hi n)) ∧ w = w' := by
  by_cases h1 : n < lo
  · go_enter Try.func91, Try.ntmps91
    go_wp2
    go_ret
    exact ⟨ret_bool (by unfold inB; rw [Bool.eq_iff_iff]; simp; omega), rfl⟩
  · go_enter Try.func91, Try.ntmps91
    go_wp2
    go_ret
    exact ⟨ret_bool (by unfold inB; rw [Bool.eq_iff_iff]; simp; omega), rfl⟩

def IdxPost (b : Bool) (w : World) (e : Ending) (w' : World) : Prop := ∃ r : Int, e = .returned (iv r) ∧ decide (0 ≤ r) = b ∧ w = w'

def allIn (lo hi : Int) (xs : List Int) : Bool := xs.all (inB lo hi)
theorem allIn_snoc (lo hi : Int) (xs : List Int) (k : Nat) (x : Int) (hx : xs[k]? = some x) : allIn lo hi (xs.take (k + 1)) = (allIn lo hi (xs.take k) && inB lo hi x) := by
  unfold allIn
  obtain ⟨h, rfl⟩ := List.getElem?_eq_some_iff.1 hx
  rw [List.take_succ_eq_append_getElem h, List.all_append]; simp
theorem allIn_no (lo hi : Int) (xs : List Int) (k : Nat) (x : Int) (hx : xs[k]? = some x) (h : inB lo hi x = false) : allIn lo hi xs = false := by
  unfold allIn
  rw [List.all_eq_false]
  exact ⟨x, List.mem_of_getElem? hx, by simp [h]⟩

set_option maxHeartbeats 400000 in
theorem indexFunc_any (A : Option Addr) (xs : List Int) (B cap : Nat) (lo hi : Int) (a1 a2 : Addr) (w : World) (hm : xs.length ≤ maxLen)
    (hR : Rd1 iv w B A xs) (ha : w.cell? a1 = some (.int .i64 lo)) (hb : w.cell? a2 = some (.int .i64 hi)) :
    Calls Try.prog 109 #[.slice A xs.length cap, .func (.func 91) #[] #[.pointer (some a1), .pointer (some a2)]] w (IdxPost (!allIn lo hi xs) w) := by
  unfold maxLen at hm
  go_enter Try.func109, Try.ntmps109
  go_wp2
  go_loop [8] (fun i => ∃ k : Nat, k ≤ xs.length ∧ i = .int .i64 k ∧ allIn lo hi (xs.take k) = true) (fun i => xs.length - (intOf i).toNat)
  case atStart => exact ⟨0, Nat.zero_le _, rfl, by simp [allIn]⟩
  case round =>
    obtain ⟨k, hk, rfl, hn⟩ := hrel
    by_cases hlt : k < xs.length
    · obtain ⟨x, hx⟩ : ∃ x, xs[k]? = some x := ⟨_, List.getElem?_eq_getElem hlt⟩
      obtain ⟨b, off, rfl, _, hck⟩ := hR k x hx
      have Hx := Lib.hid hx
      clear hx
      by_cases hp : inB lo hi x = true
      · go_wp2_with (go_at_call 91; refine (out1_any _ lo hi _ _ _ ha hb).mono ?_; rintro e w' ⟨rfl, rfl⟩)
        go_round
        case rel => exact ⟨k + 1, by omega, by go_num, by rw [allIn_snoc _ _ _ _ _ Hx.out, hn, hp]; rfl⟩
        case measure => simp [intOf]; omega
      · have hp' : inB lo hi x = false := by simpa using hp
        go_wp2_with (go_at_call 91; refine (out1_any _ lo hi _ _ _ ha hb).mono ?_; rintro e w' ⟨rfl, rfl⟩)
        go_ret
        exact ⟨k, rfl, by rw [allIn_no _ _ _ _ _ Hx.out hp']; simp, rfl⟩
    · go_wp2
      go_ret
      refine ⟨-1, rfl, ?_, rfl⟩
      rw [List.take_of_length_le (by omega)] at hn
      rw [hn]; rfl

theorem containsFunc_any (A : Option Addr) (xs : List Int) (B cap : Nat) (lo hi : Int) (a1 a2 : Addr) (w : World) (hm : xs.length ≤ maxLen)
    (hR : Rd1 iv w B A xs) (ha : w.cell? a1 = some (.int .i64 lo)) (hb : w.cell? a2 = some (.int .i64 hi)) :
    Calls Try.prog 90 #[.slice A xs.length cap, .func (.func 91) #[] #[.pointer (some a1), .pointer (some a2)]] w fun e w' => e = .returned (.bool (!allIn lo hi xs)) ∧ w = w' := by
  go_enter Try.func90, Try.ntmps90
  go_wp2_with (go_at_call 109; refine (indexFunc_any _ xs B cap lo hi _ _ _ hm hR ha hb).mono ?_; rintro e w' ⟨r, rfl, hr, rfl⟩)
  go_ret
  exact ⟨by rw [← hr]; rfl, rfl⟩

theorem out_any (A : Option Addr) (xs : List Int) (B cap : Nat) (lo hi : Int) (w : World) (hm : xs.length ≤ maxLen)
    (hR : Rd1 iv w B A xs) (hB : B ≤ w.heap.size) :
    Calls Try.prog 55 #[.int .i64 lo, .int .i64 hi, .slice A xs.length cap] w fun e w' => e = .returned (.bool (!allIn lo hi xs)) ∧ Below w.heap.size w w' := by
  have hR1 := (hR.alloc hB (.cells #[.int .i64 lo] 3)).alloc (by simp; omega) (.cells #[.int .i64 hi] 3)
  go_enter Try.func55, Try.ntmps55
  go_wp2_with (go_at_call 90; refine (containsFunc_any _ xs B cap lo hi _ _ _ hm hR1 (by go_simp) (by go_simp)).mono ?_; rintro e w' ⟨rfl, rfl⟩)
  go_ret
  exact ⟨rfl, ((Below.refl _ _).alloc (Nat.le_refl _) _).alloc (by simp) _⟩
end Go.Proofs.Ytblbbhenmhkknaa
