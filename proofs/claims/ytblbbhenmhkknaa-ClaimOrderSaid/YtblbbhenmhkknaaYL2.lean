/- The comparisons of lists, where they are the same. -/
import Derived.Test.YtblbbhenmhkknaaZb6d629
import Derived.Test.YtblbbhenmhkknaaZ307368
namespace Go.Proofs.Ytblbbhenmhkknaa
open Go.RowKit

set_option maxRecDepth 100000 in
set_option maxHeartbeats 1000000 in
theorem ints_same (A A2 : Option Addr) (a : List Int) (B cap cap2 : Nat) (w : World) (hm : a.length ≤ 1000000) (hR : Rd1 iv w B A a) (hR2 : Rd1 iv w B A2 a) (hB : B ≤ w.heap.size) :
    Calls Try.prog 24 #[.slice A a.length cap, .slice A2 a.length cap2] w fun e w' => e = .returned (.bool true) ∧ Below w.heap.size w w' := by
  go_enter Try.func24, Try.ntmps24
  go_wp2
  go_loopw [6, 5] (fun vi vs wr => ∃ k : Nat, k ≤ a.length ∧ vi = .int .i64 k ∧ vs = .bool true ∧ Hid (Below w.heap.size w wr)) (fun vi _ _ => a.length - (intOf vi).toNat)
  case atStart => exact ⟨0, Nat.zero_le _, rfl, by simp, Lib.hid (belowR _)⟩
  case round =>
    obtain ⟨k, hk, rfl, rfl, HB⟩ := hrel
    by_cases hlt : k < a.length
    · obtain ⟨x, hx⟩ : ∃ x, a[k]? = some x := ⟨_, List.getElem?_eq_getElem hlt⟩
      obtain ⟨b, off, rfl, _, c0⟩ := (hR.below HB.out hB) k x hx
      obtain ⟨b2, off2, rfl, _, d0⟩ := (hR2.below HB.out hB) k x hx
      have hkz : (k : Int) < (a.length : Int) := by omega
      have hk0 : (0 : Int) ≤ (k : Int) := by omega
      clear hx
      go_wp2
      go_quiet (fail)
      go_wp2
      go_roundw
      case rel => exact ⟨k + 1, by omega, by go_num, by simp, Lib.hid (belowN HB.out _)⟩
      case measure => simp [intOf]; omega
    · have hge : ¬ (k : Int) < (a.length : Int) := by omega
      go_wp2
      go_ret
      exact ⟨rfl, HB.out⟩
set_option maxRecDepth 100000 in
set_option maxHeartbeats 1000000 in
theorem words_same (A A2 : Option Addr) (a : List ByteArray) (B cap cap2 : Nat) (w : World) (hm : a.length ≤ 1000000) (hR : Rd1 Value.string w B A a) (hR2 : Rd1 Value.string w B A2 a) (hB : B ≤ w.heap.size) :
    Calls Try.prog 21 #[.slice A a.length cap, .slice A2 a.length cap2] w fun e w' => e = .returned (.bool true) ∧ Below w.heap.size w w' := by
  go_enter Try.func21, Try.ntmps21
  go_wp2
  go_loopw [6, 5] (fun vi vs wr => ∃ k : Nat, k ≤ a.length ∧ vi = .int .i64 k ∧ vs = .bool true ∧ Hid (Below w.heap.size w wr)) (fun vi _ _ => a.length - (intOf vi).toNat)
  case atStart => exact ⟨0, Nat.zero_le _, rfl, by simp, Lib.hid (belowR _)⟩
  case round =>
    obtain ⟨k, hk, rfl, rfl, HB⟩ := hrel
    by_cases hlt : k < a.length
    · obtain ⟨x, hx⟩ : ∃ x, a[k]? = some x := ⟨_, List.getElem?_eq_getElem hlt⟩
      obtain ⟨b, off, rfl, _, c0⟩ := (hR.below HB.out hB) k x hx
      obtain ⟨b2, off2, rfl, _, d0⟩ := (hR2.below HB.out hB) k x hx
      have hkz : (k : Int) < (a.length : Int) := by omega
      have hk0 : (0 : Int) ≤ (k : Int) := by omega
      clear hx
      go_wp2
      go_quiet (fail)
      go_wp2
      go_roundw
      case rel => exact ⟨k + 1, by omega, by go_num, by simp, Lib.hid (belowN HB.out _)⟩
      case measure => simp [intOf]; omega
    · have hge : ¬ (k : Int) < (a.length : Int) := by omega
      go_wp2
      go_ret
      exact ⟨rfl, HB.out⟩
set_option maxRecDepth 100000 in
set_option maxHeartbeats 1000000 in
theorem spans_same (A A2 : Option Addr) (a : List (Int × Int)) (B cap cap2 : Nat) (w : World) (hm : a.length ≤ 1000000) (hR : RdN 2 encSp w B A a) (hR2 : RdN 2 encSp w B A2 a) (hB : B ≤ w.heap.size) :
    Calls Try.prog 34 #[.slice A a.length cap, .slice A2 a.length cap2] w fun e w' => e = .returned (.bool true) ∧ Below w.heap.size w w' := by
  go_enter Try.func34, Try.ntmps34
  go_wp2
  go_loopw [6, 5] (fun vi vs wr => ∃ k : Nat, k ≤ a.length ∧ vi = .int .i64 k ∧ vs = .bool true ∧ Hid (Below w.heap.size w wr)) (fun vi _ _ => a.length - (intOf vi).toNat)
  case atStart => exact ⟨0, Nat.zero_le _, rfl, by simp, Lib.hid (belowR _)⟩
  case round =>
    obtain ⟨k, hk, rfl, rfl, HB⟩ := hrel
    by_cases hlt : k < a.length
    · obtain ⟨x, hx⟩ : ∃ x, a[k]? = some x := ⟨_, List.getElem?_eq_getElem hlt⟩
      obtain ⟨b, off, rfl, _, c0, c1⟩ := spAt (hR.below HB.out hB) hx
      obtain ⟨b2, off2, rfl, _, d0, d1⟩ := spAt (hR2.below HB.out hB) hx
      have hkz : (k : Int) < (a.length : Int) := by omega
      have hk0 : (0 : Int) ≤ (k : Int) := by omega
      clear hx
      go_wp2
      go_quiet (fail)
      go_wp2
      go_roundw
      case rel => exact ⟨k + 1, by omega, by go_num, by simp, Lib.hid (belowN HB.out _)⟩
      case measure => simp [intOf]; omega
    · have hge : ¬ (k : Int) < (a.length : Int) := by omega
      go_wp2
      go_ret
      exact ⟨rfl, HB.out⟩
end Go.Proofs.Ytblbbhenmhkknaa
