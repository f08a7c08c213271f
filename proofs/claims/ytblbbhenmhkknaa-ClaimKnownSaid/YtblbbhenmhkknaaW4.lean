/- The contracts of the reference's functions on names: Name, Place, Fresh. -/
import Derived.Test.YtblbbhenmhkknaaW3
namespace Go.Proofs.Ytblbbhenmhkknaa
open Go.RowKit

theorem okAt_t {i c : Nat} (hi : i ≠ 0) (h : (97 ≤ c ∧ c ≤ 122) ∨ (48 ≤ c ∧ c ≤ 57)) : okAt i c = true := by
  simp [okAt, hi]; omega
theorem okAt_f {i c : Nat} (h : ¬ ((97 ≤ c ∧ c ≤ 122) ∨ (48 ≤ c ∧ c ≤ 57))) : okAt i c = false := by
  simp [okAt]; omega

set_option maxRecDepth 1000000 in
theorem refName_any (s : ByteArray) (w : World) (hs : s.size ≤ maxLen) :
    Calls Try.prog 56 #[.string s] w fun e w' => e = .returned (.bool (nameB s)) ∧ Below w.heap.size w w' := by
  unfold maxLen at hs
  by_cases hb : 1 ≤ s.size ∧ s.size ≤ 16
  · obtain ⟨hb1, hb2⟩ := hb
    have hin : inB 1 16 (s.size : Int) = true := inB_mk (by omega) (by omega)
    obtain ⟨c, hc⟩ : ∃ c : Nat, (s[0]'(by omega)).toNat = c := ⟨_, rfl⟩
    have hb0 : byteAt s 0 = c := by rw [← hc]; simp only [byteAt]; rw [dif_pos (by omega)]
    have HB0 := Lib.hid hb0
    clear hb0
    have fin0 : okAt 0 c = false → nameB s = false := fun h => nameB_no (n := 0) (by rw [HB0.out]; exact h) (by omega)
    have FIN0 := Lib.hid fin0
    clear fin0
    by_cases c1 : c < 97
    · go_enter Try.func56, Try.ntmps56
      go_wp2_with (go_at_call 92; refine (within_any _ _ _ _).mono ?_; rintro e w' ⟨rfl, rfl⟩)
      go_ret
      exact ⟨ret_bool (FIN0.out (by simp [okAt]; omega)).symm, Below.refl _ _⟩
    by_cases c2 : 122 < c
    · have c3 : 97 ≤ c := by omega
      go_enter Try.func56, Try.ntmps56
      go_wp2_with (go_at_call 92; refine (within_any _ _ _ _).mono ?_; rintro e w' ⟨rfl, rfl⟩)
      go_ret
      exact ⟨ret_bool (FIN0.out (by simp [okAt]; omega)).symm, Below.refl _ _⟩
    have c3 : 97 ≤ c := by omega
    have c4 : c ≤ 122 := by omega
    have h1 : okTo s 1 = true := by rw [okTo_succ, HB0.out]; simp [okTo, okAt]; omega
    have H1 := Lib.hid h1
    clear h1
    go_enter Try.func56, Try.ntmps56
    go_wp2_with (go_at_call 92; refine (within_any _ _ _ _).mono ?_; rintro e w' ⟨rfl, rfl⟩)
    go_loopw [3] (fun i w' => ∃ k n : Nat, w' = w.drewN n ∧ 1 ≤ k ∧ k ≤ s.size ∧ i = .int .i64 k ∧ okTo s k = true) (fun i _ => s.size - (intOf i).toNat)
    case atStart => exact ⟨1, 0, rfl, by omega, by omega, rfl, H1.out⟩
    case round =>
      obtain ⟨k, n, rfl, hk1, hk, rfl, ho⟩ := hrel
      have HO := Lib.hid ho
      clear ho hc
      by_cases hlt : k < s.size
      · obtain ⟨d, hd⟩ : ∃ d : Nat, (s[k]'hlt).toNat = d := ⟨_, rfl⟩
        have hb : byteAt s k = d := by rw [← hd]; simp only [byteAt]; rw [dif_pos hlt]
        have HB := Lib.hid hb
        clear hb
        by_cases d1 : d < 48
        · skip
          have e1 : decide ((97 : Int) ≤ (d : Int)) = false := by simp; omega
          have e2 : decide ((d : Int) ≤ 122) = true := by simp; omega
          have e3 : decide ((48 : Int) ≤ (d : Int)) = false := by simp; omega
          have e4 : decide ((d : Int) ≤ 57) = true := by simp; omega
          go_wp2
          go_quiet (fail)
          go_wp2
          go_ret
          exact ⟨ret_bool (nameB_no (n := k) (by rw [HB.out]; exact okAt_f (by omega)) hlt).symm, belowD (Below.refl _ _) _⟩
        by_cases d2 : d ≤ 57
        · skip
          have e1 : decide ((97 : Int) ≤ (d : Int)) = false := by simp; omega
          have e2 : decide ((d : Int) ≤ 122) = true := by simp; omega
          have e3 : decide ((48 : Int) ≤ (d : Int)) = true := by simp; omega
          have e4 : decide ((d : Int) ≤ 57) = true := by simp; omega
          go_wp2
          go_quiet (fail)
          go_wp2
          go_roundw
          case rel => exact ⟨k + 1, _, rfl, by omega, by omega, by go_num, by rw [okTo_succ, HO.out, HB.out, okAt_t (by omega) (by omega)]; rfl⟩
          case measure => simp [intOf]; omega
        by_cases d3 : d < 97
        · skip
          have e1 : decide ((97 : Int) ≤ (d : Int)) = false := by simp; omega
          have e2 : decide ((d : Int) ≤ 122) = true := by simp; omega
          have e3 : decide ((48 : Int) ≤ (d : Int)) = true := by simp; omega
          have e4 : decide ((d : Int) ≤ 57) = false := by simp; omega
          go_wp2
          go_quiet (fail)
          go_wp2
          go_ret
          exact ⟨ret_bool (nameB_no (n := k) (by rw [HB.out]; exact okAt_f (by omega)) hlt).symm, belowD (Below.refl _ _) _⟩
        by_cases d4 : d ≤ 122
        · skip
          have e1 : decide ((97 : Int) ≤ (d : Int)) = true := by simp; omega
          have e2 : decide ((d : Int) ≤ 122) = true := by simp; omega
          have e3 : decide ((48 : Int) ≤ (d : Int)) = true := by simp; omega
          have e4 : decide ((d : Int) ≤ 57) = false := by simp; omega
          go_wp2
          go_quiet (fail)
          go_wp2
          go_roundw
          case rel => exact ⟨k + 1, _, rfl, by omega, by omega, by go_num, by rw [okTo_succ, HO.out, HB.out, okAt_t (by omega) (by omega)]; rfl⟩
          case measure => simp [intOf]; omega
        · skip
          have e1 : decide ((97 : Int) ≤ (d : Int)) = true := by simp; omega
          have e2 : decide ((d : Int) ≤ 122) = false := by simp; omega
          have e3 : decide ((48 : Int) ≤ (d : Int)) = true := by simp; omega
          have e4 : decide ((d : Int) ≤ 57) = false := by simp; omega
          go_wp2
          go_quiet (fail)
          go_wp2
          go_ret
          exact ⟨ret_bool (nameB_no (n := k) (by rw [HB.out]; exact okAt_f (by omega)) hlt).symm, belowD (Below.refl _ _) _⟩
      · go_wp2
        go_ret
        obtain rfl : k = s.size := by omega
        exact ⟨ret_bool (by unfold nameB; rw [HO.out]; simp; omega), belowD (Below.refl _ _) _⟩
  · have hin : inB 1 16 (s.size : Int) = false := inB_no (by omega)
    have HB := Lib.hid hb
    clear hb
    go_enter Try.func56, Try.ntmps56
    go_wp2_with (go_at_call 92; refine (within_any _ _ _ _).mono ?_; rintro e w' ⟨rfl, rfl⟩)
    go_ret
    exact ⟨ret_bool (by have := HB.out; unfold nameB; rw [Bool.eq_iff_iff]; simp; omega), Below.refl _ _⟩

/-- Whether a name is one of a list. -/
def oneOf (l : List ByteArray) (s : ByteArray) : Bool := l.any fun x => x.toList == s.toList
theorem toList_inj {x y : ByteArray} (h : x.toList = y.toList) : x = y := by
  rw [ByteArray.toList_eq, ByteArray.toList_eq] at h
  cases x; cases y
  simp only at h
  rw [Array.toList_inj] at h
  rw [h]
theorem oneOf_snoc (l : List ByteArray) (s : ByteArray) (k : Nat) (x : ByteArray) (hx : l[k]? = some x) : oneOf (l.take (k + 1)) s = (oneOf (l.take k) s || x.toList == s.toList) := by
  unfold oneOf
  obtain ⟨h, rfl⟩ := List.getElem?_eq_some_iff.1 hx
  rw [List.take_succ_eq_append_getElem h, List.any_append]; simp
theorem oneOf_yes {l : List ByteArray} {s : ByteArray} {k : Nat} {x : ByteArray} (hx : l[k]? = some x) (h : (x.toList == s.toList) = true) : oneOf l s = true := by
  unfold oneOf
  rw [List.any_eq_true]
  exact ⟨x, List.mem_of_getElem? hx, h⟩
theorem place_any (A : Option Addr) (l : List ByteArray) (B cap : Nat) (s : ByteArray) (w : World) (hm : l.length ≤ maxLen) (hR : Rd1 .string w B A l) :
    Calls Try.prog 88 #[.slice A l.length cap, .string s] w (IdxPost (oneOf l s) w) := by
  unfold maxLen at hm
  go_enter Try.func88, Try.ntmps88
  go_wp2
  go_loop [5] (fun i => ∃ k : Nat, k ≤ l.length ∧ i = .int .i64 k ∧ oneOf (l.take k) s = false) (fun i => l.length - (intOf i).toNat)
  case atStart => exact ⟨0, Nat.zero_le _, rfl, by simp [oneOf]⟩
  case round =>
    obtain ⟨k, hk, rfl, hn⟩ := hrel
    have HN := Lib.hid hn
    clear hn
    by_cases hlt : k < l.length
    · obtain ⟨x, hx⟩ : ∃ x, l[k]? = some x := ⟨_, List.getElem?_eq_getElem hlt⟩
      obtain ⟨b, off, rfl, _, hck⟩ := hR k x hx
      have HX := Lib.hid hx
      clear hx
      cases hp : (x.toList == s.toList)
      · have HP := Lib.hid hp
        go_wp2
        go_round
        case rel => exact ⟨k + 1, by omega, by go_num, by rw [oneOf_snoc _ _ _ _ HX.out, HN.out, HP.out]; rfl⟩
        case measure => simp [intOf]; omega
      · have HP := Lib.hid hp
        go_wp2
        go_ret
        exact ⟨k, rfl, by rw [oneOf_yes HX.out HP.out]; simp, rfl⟩
    · go_wp2
      go_ret
      refine ⟨-1, rfl, ?_, rfl⟩
      have hn := HN.out
      rw [List.take_of_length_le (by omega)] at hn
      rw [hn]; rfl

/-- The error of a name behind some others: 6 no name, 5 there already, 0 none. -/
def freshE (l : List ByteArray) (s : ByteArray) : Int := if nameB s then (if oneOf l s then 5 else 0) else 6
theorem fresh_any (A : Option Addr) (l : List ByteArray) (B cap : Nat) (s : ByteArray) (w : World) (hs : s.size ≤ maxLen) (hm : l.length ≤ maxLen) (hR : Rd1 .string w B A l) (hB : B ≤ w.heap.size) :
    Calls Try.prog 104 #[.string s, .slice A l.length cap] w fun e w' => e = .returned (iv (freshE l s)) ∧ Below w.heap.size w w' := by
  cases hn : nameB s
  · have hf : freshE l s = 6 := by simp [freshE, hn]
    have HF := Lib.hid hf
    clear hf
    go_enter Try.func104, Try.ntmps104
    go_wp2_with (go_at_call 56; refine (refName_any _ _ hs).mono ?_; rintro e w1 ⟨rfl, hb⟩)
    go_ret
    exact ⟨by rw [HF.out]; rfl, hb⟩
  · cases ho : oneOf l s
    · have hf : freshE l s = 0 := by simp [freshE, hn, ho]
      have HF := Lib.hid hf
      clear hf
      go_enter Try.func104, Try.ntmps104
      go_wp2_with (first | (go_at_call 56; refine (refName_any _ _ hs).mono ?_; rintro e w1 ⟨rfl, hb⟩; have hR1 := hR.below hb hB) | (go_at_call 88; refine (place_any _ _ _ _ _ _ hm (by assumption)).mono ?_; rintro e w' ⟨r, rfl, hr, rfl⟩))
      go_ret
      exact ⟨by rw [HF.out]; rfl, hb⟩
    · have hf : freshE l s = 5 := by simp [freshE, hn, ho]
      have HF := Lib.hid hf
      clear hf
      go_enter Try.func104, Try.ntmps104
      go_wp2_with (first | (go_at_call 56; refine (refName_any _ _ hs).mono ?_; rintro e w1 ⟨rfl, hb⟩; have hR1 := hR.below hb hB) | (go_at_call 88; refine (place_any _ _ _ _ _ _ hm (by assumption)).mono ?_; rintro e w' ⟨r, rfl, hr, rfl⟩))
      go_ret
      exact ⟨by rw [HF.out]; rfl, hb⟩
end Go.Proofs.Ytblbbhenmhkknaa
