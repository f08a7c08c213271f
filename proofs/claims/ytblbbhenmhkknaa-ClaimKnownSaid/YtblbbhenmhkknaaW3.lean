/- The contracts of the functions on names: hull.Name, and the reference's Name, Place, Fresh. -/
import Derived.Test.YtblbbhenmhkknaaW2
import Derived.Laws.RangeAny
namespace Go.Proofs.Ytblbbhenmhkknaa
open Go.RowKit

def byteAt (s : ByteArray) (i : Nat) : Nat := if h : i < s.size then (s[i]'h).toNat else 0
def okAt (i c : Nat) : Bool := (decide (97 ≤ c) && decide (c ≤ 122)) || ((decide (48 ≤ c) && decide (c ≤ 57)) && i != 0)
def okTo (s : ByteArray) (n : Nat) : Bool := (List.range n).all fun i => okAt i (byteAt s i)
/-- A name: 1 to 16 letters and digits, the first one a letter. -/
def nameB (s : ByteArray) : Bool := okTo s s.size && decide (1 ≤ s.size) && decide (s.size ≤ 16)
theorem okTo_succ (s : ByteArray) (n : Nat) : okTo s (n + 1) = (okTo s n && okAt n (byteAt s n)) := by
  unfold okTo
  rw [List.range_succ, List.all_append]
  simp
theorem okTo_no {s : ByteArray} {n m : Nat} (h : okAt n (byteAt s n) = false) (hn : n < m) : okTo s m = false := by
  unfold okTo
  rw [List.all_eq_false]
  exact ⟨n, by simpa using hn, by simp [h]⟩
theorem nameB_no {s : ByteArray} {n : Nat} (h : okAt n (byteAt s n) = false) (hn : n < s.size) : nameB s = false := by
  unfold nameB; rw [okTo_no h hn]; rfl

theorem okAt_zero {s : ByteArray} {pos c : Nat} (h : pos = 0) (hb : byteAt s pos = c) (hc : c < 97) : okAt pos (byteAt s pos) = false := by
  rw [hb, h]; simp [okAt]; omega
theorem toList_nil {s : ByteArray} (h : s.toList = []) : s.size = 0 := by
  rw [ByteArray.toList_eq] at h
  have : s.data.toList.length = 0 := by rw [h]; rfl
  simpa using this
theorem toList_not_nil {s : ByteArray} (h : ¬ s.toList = []) : 1 ≤ s.size := by
  rw [ByteArray.toList_eq] at h
  have : s.data.toList.length ≠ 0 := fun e => h (List.length_eq_zero_iff.1 e)
  have h2 : s.data.toList.length = s.size := by simp
  omega

set_option maxRecDepth 1000000 in
theorem name_any (s : ByteArray) (w : World) (hs : s.size ≤ maxLen) :
    Calls Try.prog 54 #[.string s] w fun e w' => e = .returned (.bool (nameB s)) ∧ Below w.heap.size w w' := by
  unfold maxLen at hs
  go_enter Try.func54, Try.ntmps54
  go_wp2
  go_loopw [3] (fun _ w' => ∃ pos : Nat, w' = w.iter s pos ∧ pos ≤ s.size ∧ okTo s pos = true) (fun _ w' => s.size - w'.iterPos w.heap.size)
  case atStart => exact ⟨0, rfl, Nat.zero_le _, rfl⟩
  case round =>
    obtain ⟨pos, rfl, hp, ho⟩ := hrel
    have HO := Lib.hid ho
    clear ho
    by_cases hlt : pos < s.size
    · by_cases ha : (s[pos]'hlt).toNat < 128
      · have hnx : ∀ ty, (Instr.next (.pointer (some ⟨w.heap.size, 0, none⟩)) true ty).run Try.prog (w.iter s pos) = _ := fun ty => run_next_ascii w s pos ty hlt ha
        obtain ⟨c, hc⟩ : ∃ c : Nat, (s[pos]'hlt).toNat = c := ⟨_, rfl⟩
        rw [hc] at ha hnx
        have hb : byteAt s pos = c := by simp [byteAt, hlt, hc]
        have HB := Lib.hid hb
        clear hb hc
        by_cases c1 : c < 48
        · have c2 : c < 97 := by omega
          go_wp2
          go_ret
          exact ⟨ret_bool (nameB_no (n := pos) (by rw [HB.out]; simp [okAt]; omega) hlt).symm, (Below.refl _ _).alloc (Nat.le_refl _) _⟩
        by_cases c2 : c ≤ 57
        · have c3 : c < 97 := by omega
          have c4 : 48 ≤ c := by omega
          by_cases c5 : pos = 0
          · have c6 : ((pos : Int) == 0) = true := beq_iff_eq.2 (by omega)
            have C5 := Lib.hid c5
            clear c5
            go_wp2
            go_ret
            exact ⟨ret_bool (nameB_no (n := pos) (okAt_zero C5.out HB.out c3) hlt).symm, (Below.refl _ _).alloc (Nat.le_refl _) _⟩
          · have c6 : ((pos : Int) == 0) = false := beq_eq_false_iff_ne.2 (by omega)
            have C5 := Lib.hid c5
            clear c5
            go_wp2
            go_roundw
            case rel => exact ⟨pos + 1, rfl, by omega, by rw [okTo_succ, HO.out, HB.out]; have := C5.out; simp [okAt]; omega⟩
            case measure => simp; omega
        by_cases c3 : c < 97
        · have c4 : 57 < c := by omega
          have c5 : 48 ≤ c := by omega
          go_wp2
          go_ret
          exact ⟨ret_bool (nameB_no (n := pos) (by rw [HB.out]; simp [okAt]; omega) hlt).symm, (Below.refl _ _).alloc (Nat.le_refl _) _⟩
        have c4 : 57 < c := by omega
        have c5 : 48 ≤ c := by omega
        have c6 : 97 ≤ c := by omega
        by_cases c7 : c ≤ 122
        · go_wp2
          go_roundw
          case rel => exact ⟨pos + 1, rfl, by omega, by rw [okTo_succ, HO.out, HB.out]; simp [okAt]; omega⟩
          case measure => simp; omega
        · have c8 : decide ((c : Int) ≤ 122) = false := by simp; omega
          go_wp2
          go_ret
          exact ⟨ret_bool (nameB_no (n := pos) (by rw [HB.out]; simp [okAt]; omega) hlt).symm, (Below.refl _ _).alloc (Nat.le_refl _) _⟩
      · have hnx : ∀ ty, (Instr.next (.pointer (some ⟨w.heap.size, 0, none⟩)) true ty).run Try.prog (w.iter s pos) = _ := fun ty => run_next_any w s pos ty hlt
        obtain ⟨h1, h2⟩ := decode_high s pos hlt (by omega)
        obtain ⟨r, hr⟩ : ∃ r : Nat, (Utf8.decode s pos).1 = r := ⟨_, rfl⟩
        obtain ⟨d, hd⟩ : ∃ d : Nat, (Utf8.decode s pos).2 = d := ⟨_, rfl⟩
        rw [hr] at h1 hnx
        rw [hd] at h2 hnx
        have hb : 128 ≤ byteAt s pos := by simp only [byteAt, hlt, dif_pos]; omega
        clear hr hd ha
        have h3 : 97 ≤ r := by omega
        have h4 : decide ((r : Int) ≤ 122) = false := by simp; omega
        have h5 : 48 ≤ r := by omega
        have h6 : decide ((r : Int) ≤ 57) = false := by simp; omega
        go_wp2
        go_ret
        exact ⟨ret_bool (nameB_no (n := pos) (by simp [okAt]; omega) hlt).symm, (Below.refl _ _).alloc (Nat.le_refl _) _⟩
    · have hnx : ∀ ty, (Instr.next (.pointer (some ⟨w.heap.size, 0, none⟩)) true ty).run Try.prog (w.iter s pos) = _ := fun ty => run_next_end w s pos ty hlt
      obtain rfl : pos = s.size := by omega
      go_wp2
      · have hz : s.toList = [] := by assumption
        go_ret
        exact ⟨ret_bool (by unfold nameB; rw [toList_nil hz]; simp), (Below.refl _ _).alloc (Nat.le_refl _) _⟩
      · have hz : ¬ s.toList = [] := by assumption
        go_ret
        refine ⟨ret_bool ?_, (Below.refl _ _).alloc (Nat.le_refl _) _⟩
        show (!s.toList.isEmpty && decide ((s.size : Int) ≤ 16)) = nameB s
        have h1 : s.toList.isEmpty = false := by simpa using hz
        have h2 := toList_not_nil hz
        unfold nameB
        rw [h1, HO.out, Bool.eq_iff_iff]
        simp
        omega
end Go.Proofs.Ytblbbhenmhkknaa
