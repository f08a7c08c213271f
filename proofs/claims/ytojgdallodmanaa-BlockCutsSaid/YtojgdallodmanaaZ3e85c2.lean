/- The contracts of the functions on names: hull.Name, and the reference's Name, Place, Fresh. The contracts of the reference's functions on names: Name, Place, Fresh. -/
import Derived.Laws.RangeAny
import Derived.Test.YtojgdallodmanaaZ8a532b
namespace Go.Proofs.Ytojgdallodmanaa
open Go.RowKit

def byteAt (s : ByteArray) (i : Nat) : Nat := if h : i < s.size then (s[i]'h).toNat else 0
def okAt (i c : Nat) : Bool := (decide (97 ≤ c) && decide (c ≤ 122)) || ((decide (48 ≤ c) && decide (c ≤ 57)) && i != 0)
def okTo (s : ByteArray) (n : Nat) : Bool := (List.range n).all fun i => okAt i (byteAt s i)
/-- A name: 1 to 16 letters and digits, the first one a letter. -/
def nameB (s : ByteArray) : Bool := okTo s s.size && decide (1 ≤ s.size) && decide (s.size ≤ 16)
theorem okTo_succ (s : ByteArray) (n : Nat) : okTo s (n + 1) = (okTo s n && okAt n (byteAt s n)) := by
  unfold okTo
  rw [List.range_succ, List.all_append]
  simp
theorem okTo_no {s : ByteArray} {n m : Nat} (h : okAt n (byteAt s n) = false) (hn : n < m) : okTo s m = false := by
  unfold okTo
  rw [List.all_eq_false]
  exact ⟨n, by simpa using hn, by simp [h]⟩
theorem nameB_no {s : ByteArray} {n : Nat} (h : okAt n (byteAt s n) = false) (hn : n < s.size) : nameB s = false := by
  unfold nameB; rw [okTo_no h hn]; rfl

theorem okAt_zero {s : ByteArray} {pos c : Nat} (h : pos = 0) (hb : byteAt s pos = c) (hc : c < 97) : okAt pos (byteAt s pos) = false := by
  rw [hb, h]; simp [okAt]; omega
theorem toList_nil {s : ByteArray} (h : s.toList = []) : s.size = 0 := by
  rw [ByteArray.toList_eq] at h
  have : s.data.toList.length = 0 := by rw [h]; rfl
  simpa using this
theorem toList_not_nil {s : ByteArray} (h : ¬ s.toList = []) : 1 ≤ s.size := by
  rw [ByteArray.toList_eq] at h
  have : s.data.toList.length ≠ 0 := fun e => h (List.length_eq_zero_iff.1 e)
  have h2 : s.data.toList.length = s.size := by simp
  omega

set_option maxRecDepth 1000000 in
theorem name_any (s : ByteArray) (w : World) (hs : s.size ≤ maxLen) :
    Calls Try.prog 97 #[.string s] w fun e w' => e = .returned (.bool (nameB s)) ∧ Below w.heap.size w w' := by
  unfold maxLen at hs
  go_enter Try.func97, Try.ntmps97
  go_wp2
  go_loopw [3] (fun _ w' => ∃ pos : Nat, w' = w.iter s pos ∧ pos ≤ s.size ∧ okTo s pos = true) (fun _ w' => s.size - w'.iterPos w.heap.size)
  case atStart => exact ⟨0, rfl, Nat.zero_le _, rfl⟩
  case round =>
    obtain ⟨pos, rfl, hp, ho⟩ := hrel
    have HO := Lib.hid ho
    clear ho
    by_cases hlt : pos < s.size
    · by_cases ha : (s[pos]'hlt).toNat < 128
      · have hnx : ∀ ty, (Instr.next (.pointer (some ⟨w.heap.size, 0, none⟩)) true ty).run Try.prog (w.iter s pos) = _ := fun ty => run_next_ascii w s pos ty hlt ha
        obtain ⟨c, hc⟩ : ∃ c : Nat, (s[pos]'hlt).toNat = c := ⟨_, rfl⟩
        rw [hc] at ha hnx
        have hb : byteAt s pos = c := by simp [byteAt, hlt, hc]
        have HB := Lib.hid hb
        clear hb hc
        by_cases c1 : c < 48
        · have c2 : c < 97 := by omega
          go_wp2
          go_ret
          exact ⟨ret_bool (nameB_no (n := pos) (by rw [HB.out]; simp [okAt]; omega) hlt).symm, (Below.refl _ _).alloc (Nat.le_refl _) _⟩
        by_cases c2 : c ≤ 57
        · have c3 : c < 97 := by omega
          have c4 : 48 ≤ c := by omega
          by_cases c5 : pos = 0
          · have c6 : ((pos : Int) == 0) = true := beq_iff_eq.2 (by omega)
            have C5 := Lib.hid c5
            clear c5
            go_wp2
            go_ret
            exact ⟨ret_bool (nameB_no (n := pos) (okAt_zero C5.out HB.out c3) hlt).symm, (Below.refl _ _).alloc (Nat.le_refl _) _⟩
          · have c6 : ((pos : Int) == 0) = false := beq_eq_false_iff_ne.2 (by omega)
            have C5 := Lib.hid c5
            clear c5
            go_wp2
            go_roundw
            case rel => exact ⟨pos + 1, rfl, by omega, by rw [okTo_succ, HO.out, HB.out]; have := C5.out; simp [okAt]; omega⟩
            case measure => simp; omega
        by_cases c3 : c < 97
        · have c4 : 57 < c := by omega
          have c5 : 48 ≤ c := by omega
          go_wp2
          go_ret
          exact ⟨ret_bool (nameB_no (n := pos) (by rw [HB.out]; simp [okAt]; omega) hlt).symm, (Below.refl _ _).alloc (Nat.le_refl _) _⟩
        have c4 : 57 < c := by omega
        have c5 : 48 ≤ c := by omega
        have c6 : 97 ≤ c := by omega
        by_cases c7 : c ≤ 122
        · go_wp2
          go_roundw
          case rel => exact ⟨pos + 1, rfl, by omega, by rw [okTo_succ, HO.out, HB.out]; simp [okAt]; omega⟩
          case measure => simp; omega
        · have c8 : decide ((c : Int) ≤ 122) = false := by simp; omega
          go_wp2
          go_ret
          exact ⟨ret_bool (nameB_no (n := pos) (by rw [HB.out]; simp [okAt]; omega) hlt).symm, (Below.refl _ _).alloc (Nat.le_refl _) _⟩
      · have hnx : ∀ ty, (Instr.next (.pointer (some ⟨w.heap.size, 0, none⟩)) true ty).run Try.prog (w.iter s pos) = _ := fun ty => run_next_any w s pos ty hlt
        obtain ⟨h1, h2⟩ := decode_high s pos hlt (by omega)
        obtain ⟨r, hr⟩ : ∃ r : Nat, (Utf8.decode s pos).1 = r := ⟨_, rfl⟩
        obtain ⟨d, hd⟩ : ∃ d : Nat, (Utf8.decode s pos).2 = d := ⟨_, rfl⟩
        rw [hr] at h1 hnx
        rw [hd] at h2 hnx
        have hb : 128 ≤ byteAt s pos := by simp only [byteAt, hlt, dif_pos]; omega
        clear hr hd ha
        have h3 : 97 ≤ r := by omega
        have h4 : decide ((r : Int) ≤ 122) = false := by simp; omega
        have h5 : 48 ≤ r := by omega
        have h6 : decide ((r : Int) ≤ 57) = false := by simp; omega
        go_wp2
        go_ret
        exact ⟨ret_bool (nameB_no (n := pos) (by simp [okAt]; omega) hlt).symm, (Below.refl _ _).alloc (Nat.le_refl _) _⟩
    · have hnx : ∀ ty, (Instr.next (.pointer (some ⟨w.heap.size, 0, none⟩)) true ty).run Try.prog (w.iter s pos) = _ := fun ty => run_next_end w s pos ty hlt
      obtain rfl : pos = s.size := by omega
      go_wp2
      · have hz : s.toList = [] := by assumption
        go_ret
        exact ⟨ret_bool (by unfold nameB; rw [toList_nil hz]; simp), (Below.refl _ _).alloc (Nat.le_refl _) _⟩
      · have hz : ¬ s.toList = [] := by assumption
        go_ret
        refine ⟨ret_bool ?_, (Below.refl _ _).alloc (Nat.le_refl _) _⟩
        show (!s.toList.isEmpty && decide ((s.size : Int) ≤ 16)) = nameB s
        have h1 : s.toList.isEmpty = false := by simpa using hz
        have h2 := toList_not_nil hz
        unfold nameB
        rw [h1, HO.out, Bool.eq_iff_iff]
        simp
        omega
end Go.Proofs.Ytojgdallodmanaa

namespace Go.Proofs.Ytojgdallodmanaa
open Go.RowKit

theorem okAt_t {i c : Nat} (hi : i ≠ 0) (h : (97 ≤ c ∧ c ≤ 122) ∨ (48 ≤ c ∧ c ≤ 57)) : okAt i c = true := by
  simp [okAt, hi]; omega
theorem okAt_f {i c : Nat} (h : ¬ ((97 ≤ c ∧ c ≤ 122) ∨ (48 ≤ c ∧ c ≤ 57))) : okAt i c = false := by
  simp [okAt]; omega

set_option maxRecDepth 1000000 in
theorem refName_any (s : ByteArray) (w : World) (hs : s.size ≤ maxLen) :
    Calls Try.prog 102 #[.string s] w fun e w' => e = .returned (.bool (nameB s)) ∧ Below w.heap.size w w' := by
  unfold maxLen at hs
  by_cases hb : 1 ≤ s.size ∧ s.size ≤ 16
  · obtain ⟨hb1, hb2⟩ := hb
    have hin : inB 1 16 (s.size : Int) = true := inB_mk (by omega) (by omega)
    obtain ⟨c, hc⟩ : ∃ c : Nat, (s[0]'(by omega)).toNat = c := ⟨_, rfl⟩
    have hb0 : byteAt s 0 = c := by rw [← hc]; simp only [byteAt]; rw [dif_pos (by omega)]
    have HB0 := Lib.hid hb0
    clear hb0
    have fin0 : okAt 0 c = false → nameB s = false := fun h => nameB_no (n := 0) (by rw [HB0.out]; exact h) (by omega)
    have FIN0 := Lib.hid fin0
    clear fin0
    by_cases c1 : c < 97
    · go_enter Try.func102, Try.ntmps102
      go_wp2_with (go_at_call 121; refine (within_any _ _ _ _).mono ?_; rintro e w' ⟨rfl, rfl⟩)
      go_ret
      exact ⟨ret_bool (FIN0.out (by simp [okAt]; omega)).symm, Below.refl _ _⟩
    by_cases c2 : 122 < c
    · have c3 : 97 ≤ c := by omega
      go_enter Try.func102, Try.ntmps102
      go_wp2_with (go_at_call 121; refine (within_any _ _ _ _).mono ?_; rintro e w' ⟨rfl, rfl⟩)
      go_ret
      exact ⟨ret_bool (FIN0.out (by simp [okAt]; omega)).symm, Below.refl _ _⟩
    have c3 : 97 ≤ c := by omega
    have c4 : c ≤ 122 := by omega
    have h1 : okTo s 1 = true := by rw [okTo_succ, HB0.out]; simp [okTo, okAt]; omega
    have H1 := Lib.hid h1
    clear h1
    go_enter Try.func102, Try.ntmps102
    go_wp2_with (go_at_call 121; refine (within_any _ _ _ _).mono ?_; rintro e w' ⟨rfl, rfl⟩)
    go_loopw [3] (fun i w' => ∃ k n : Nat, w' = w.drewN n ∧ 1 ≤ k ∧ k ≤ s.size ∧ i = .int .i64 k ∧ okTo s k = true) (fun i _ => s.size - (intOf i).toNat)
    case atStart => exact ⟨1, 0, rfl, by omega, by omega, rfl, H1.out⟩
    case round =>
      obtain ⟨k, n, rfl, hk1, hk, rfl, ho⟩ := hrel
      have HO := Lib.hid ho
      clear ho hc
      by_cases hlt : k < s.size
      · obtain ⟨d, hd⟩ : ∃ d : Nat, (s[k]'hlt).toNat = d := ⟨_, rfl⟩
        have hb : byteAt s k = d := by rw [← hd]; simp only [byteAt]; rw [dif_pos hlt]
        have HB := Lib.hid hb
        clear hb
        by_cases d1 : d < 48
        · skip
          have e1 : decide ((97 : Int) ≤ (d : Int)) = false := by simp; omega
          have e2 : decide ((d : Int) ≤ 122) = true := by simp; omega
          have e3 : decide ((48 : Int) ≤ (d : Int)) = false := by simp; omega
          have e4 : decide ((d : Int) ≤ 57) = true := by simp; omega
          go_wp2
          go_quiet (fail)
          go_wp2
          go_ret
          exact ⟨ret_bool (nameB_no (n := k) (by rw [HB.out]; exact okAt_f (by omega)) hlt).symm, belowD (Below.refl _ _) _⟩
        by_cases d2 : d ≤ 57
        · skip
          have e1 : decide ((97 : Int) ≤ (d : Int)) = false := by simp; omega
          have e2 : decide ((d : Int) ≤ 122) = true := by simp; omega
          have e3 : decide ((48 : Int) ≤ (d : Int)) = true := by simp; omega
          have e4 : decide ((d : Int) ≤ 57) = true := by simp; omega
          go_wp2
          go_quiet (fail)
          go_wp2
          go_roundw
          case rel => exact ⟨k + 1, _, rfl, by omega, by omega, by go_num, by rw [okTo_succ, HO.out, HB.out, okAt_t (by omega) (by omega)]; rfl⟩
          case measure => simp [intOf]; omega
        by_cases d3 : d < 97
        · skip
          have e1 : decide ((97 : Int) ≤ (d : Int)) = false := by simp; omega
          have e2 : decide ((d : Int) ≤ 122) = true := by simp; omega
          have e3 : decide ((48 : Int) ≤ (d : Int)) = true := by simp; omega
          have e4 : decide ((d : Int) ≤ 57) = false := by simp; omega
          go_wp2
          go_quiet (fail)
          go_wp2
          go_ret
          exact ⟨ret_bool (nameB_no (n := k) (by rw [HB.out]; exact okAt_f (by omega)) hlt).symm, belowD (Below.refl _ _) _⟩
        by_cases d4 : d ≤ 122
        · skip
          have e1 : decide ((97 : Int) ≤ (d : Int)) = true := by simp; omega
          have e2 : decide ((d : Int) ≤ 122) = true := by simp; omega
          have e3 : decide ((48 : Int) ≤ (d : Int)) = true := by simp; omega
          have e4 : decide ((d : Int) ≤ 57) = false := by simp; omega
          go_wp2
          go_quiet (fail)
          go_wp2
          go_roundw
          case rel => exact ⟨k + 1, _, rfl, by omega, by omega, by go_num, by rw [okTo_succ, HO.out, HB.out, okAt_t (by omega) (by omega)]; rfl⟩
          case measure => simp [intOf]; omega
        · skip
          have e1 : decide ((97 : Int) ≤ (d : Int)) = true := by simp; omega
          have e2 : decide ((d : Int) ≤ 122) = false := by simp; omega
          have e3 : decide ((48 : Int) ≤ (d : Int)) = true := by simp; omega
          have e4 : decide ((d : Int) ≤ 57) = false := by simp; omega
          go_wp2
          go_quiet (fail)
          go_wp2
          go_ret
          exact ⟨ret_bool (nameB_no (n := k) (by rw [HB.out]; exact okAt_f (by omega)) hlt).symm, belowD (Below.refl _ _) _⟩
      · go_wp2
        go_ret
        obtain rfl : k = s.size := by omega
        exact ⟨ret_bool (by unfold nameB; rw [HO.out]; simp; omega), belowD (Below.refl _ _) _⟩
  · have hin : inB 1 16 (s.size : Int) = false := inB_no (by omega)
    have HB := Lib.hid hb
    clear hb
    go_enter Try.func102, Try.ntmps102
    go_wp2_with (go_at_call 121; refine (within_any _ _ _ _).mono ?_; rintro e w' ⟨rfl, rfl⟩)
    go_ret
    exact ⟨ret_bool (by have := HB.out; unfold nameB; rw [Bool.eq_iff_iff]; simp; omega), Below.refl _ _⟩

/-- Whether a name is one of a list. -/
def oneOf (l : List ByteArray) (s : ByteArray) : Bool := l.any fun x => x.toList == s.toList
theorem toList_inj {x y : ByteArray} (h : x.toList = y.toList) : x = y := by
  rw [ByteArray.toList_eq, ByteArray.toList_eq] at h
  cases x; cases y
  simp only at h
  rw [Array.toList_inj] at h
  rw [h]
theorem oneOf_snoc (l : List ByteArray) (s : ByteArray) (k : Nat) (x : ByteArray) (hx : l[k]? = some x) : oneOf (l.take (k + 1)) s = (oneOf (l.take k) s || x.toList == s.toList) := by
  unfold oneOf
  obtain ⟨h, rfl⟩ := List.getElem?_eq_some_iff.1 hx
  rw [List.take_succ_eq_append_getElem h, List.any_append]; simp
theorem oneOf_yes {l : List ByteArray} {s : ByteArray} {k : Nat} {x : ByteArray} (hx : l[k]? = some x) (h : (x.toList == s.toList) = true) : oneOf l s = true := by
  unfold oneOf
  rw [List.any_eq_true]
  exact ⟨x, List.mem_of_getElem? hx, h⟩
theorem place_any (A : Option Addr) (l : List ByteArray) (B cap : Nat) (s : ByteArray) (w : World) (hm : l.length ≤ maxLen) (hR : Rd1 .string w B A l) :
    Calls Try.prog 103 #[.slice A l.length cap, .string s] w (IdxPost (oneOf l s) w) := by
  unfold maxLen at hm
  go_enter Try.func103, Try.ntmps103
  go_wp2
  go_loop [5] (fun i => ∃ k : Nat, k ≤ l.length ∧ i = .int .i64 k ∧ oneOf (l.take k) s = false) (fun i => l.length - (intOf i).toNat)
  case atStart => exact ⟨0, Nat.zero_le _, rfl, by simp [oneOf]⟩
  case round =>
    obtain ⟨k, hk, rfl, hn⟩ := hrel
    have HN := Lib.hid hn
    clear hn
    by_cases hlt : k < l.length
    · obtain ⟨x, hx⟩ : ∃ x, l[k]? = some x := ⟨_, List.getElem?_eq_getElem hlt⟩
      obtain ⟨b, off, rfl, _, hck⟩ := hR k x hx
      have HX := Lib.hid hx
      clear hx
      cases hp : (x.toList == s.toList)
      · have HP := Lib.hid hp
        go_wp2
        go_round
        case rel => exact ⟨k + 1, by omega, by go_num, by rw [oneOf_snoc _ _ _ _ HX.out, HN.out, HP.out]; rfl⟩
        case measure => simp [intOf]; omega
      · have HP := Lib.hid hp
        go_wp2
        go_ret
        exact ⟨k, rfl, by rw [oneOf_yes HX.out HP.out]; simp, rfl⟩
    · go_wp2
      go_ret
      refine ⟨-1, rfl, ?_, rfl⟩
      have hn := HN.out
      rw [List.take_of_length_le (by omega)] at hn
      rw [hn]; rfl

/-- The error of a name behind some others: 6 no name, 5 there already, 0 none. -/
def freshE (l : List ByteArray) (s : ByteArray) : Int := if nameB s then (if oneOf l s then 5 else 0) else 6
theorem fresh_any (A : Option Addr) (l : List ByteArray) (B cap : Nat) (s : ByteArray) (w : World) (hs : s.size ≤ maxLen) (hm : l.length ≤ maxLen) (hR : Rd1 .string w B A l) (hB : B ≤ w.heap.size) :
    Calls Try.prog 61 #[.string s, .slice A l.length cap] w fun e w' => e = .returned (iv (freshE l s)) ∧ Below w.heap.size w w' := by
  cases hn : nameB s
  · have hf : freshE l s = 6 := by simp [freshE, hn]
    have HF := Lib.hid hf
    clear hf
    go_enter Try.func61, Try.ntmps61
    go_wp2_with (go_at_call 102; refine (refName_any _ _ hs).mono ?_; rintro e w1 ⟨rfl, hb⟩)
    go_ret
    exact ⟨by rw [HF.out]; rfl, hb⟩
  · cases ho : oneOf l s
    · have hf : freshE l s = 0 := by simp [freshE, hn, ho]
      have HF := Lib.hid hf
      clear hf
      go_enter Try.func61, Try.ntmps61
      go_wp2_with (first | (go_at_call 102; refine (refName_any _ _ hs).mono ?_; rintro e w1 ⟨rfl, hb⟩; have hR1 := hR.below hb hB) | (go_at_call 103; refine (place_any _ _ _ _ _ _ hm (by assumption)).mono ?_; rintro e w' ⟨r, rfl, hr, rfl⟩))
      go_ret
      exact ⟨by rw [HF.out]; rfl, hb⟩
    · have hf : freshE l s = 5 := by simp [freshE, hn, ho]
      have HF := Lib.hid hf
      clear hf
      go_enter Try.func61, Try.ntmps61
      go_wp2_with (first | (go_at_call 102; refine (refName_any _ _ hs).mono ?_; rintro e w1 ⟨rfl, hb⟩; have hR1 := hR.below hb hB) | (go_at_call 103; refine (place_any _ _ _ _ _ _ hm (by assumption)).mono ?_; rintro e w' ⟨r, rfl, hr, rfl⟩))
      go_ret
      exact ⟨by rw [HF.out]; rfl, hb⟩
end Go.Proofs.Ytojgdallodmanaa
