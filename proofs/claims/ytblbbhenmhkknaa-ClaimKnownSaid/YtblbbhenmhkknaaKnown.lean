/- The examples of the document: the law's call returns true. -/
import Derived.Test.YtblbbhenmhkknaaL5
namespace Go.Proofs.Ytblbbhenmhkknaa
open Go.RowKit

set_option maxRecDepth 1000000 in
set_option maxHeartbeats 8000000 in
theorem known_any (w : World) : Calls Try.prog 6 #[] w fun e w' => e = .returned (.bool true) ∧ Below w.heap.size w w' := by
  go_enter Try.func6, Try.ntmps6
  go_wp2_with fail
  refine (ship_any _).mono ?_
  rintro e w1 ⟨g1, rfl, hr1, hb1⟩
  have HR1 := Lib.hid hr1
  have HB1 := Lib.hid hb1
  clear hr1 hb1
  go_wp2_with fail
  refine (exOwners25 g1 _ _ HR1.out (Nat.le_refl _)).mono ?_
  rintro e w2 ⟨A2, cap2, rfl, hr2, hb2⟩
  have HR2 := Lib.hid hr2
  have HB2 := Lib.hid hb2
  clear hr2 hb2
  go_wp2_with fail
  refine (ship_any _).mono ?_
  rintro e w3 ⟨g3, rfl, hr3, hb3⟩
  have HR3 := Lib.hid hr3
  have HB3 := Lib.hid hb3
  clear hr3 hb3
  go_wp2_with fail
  refine (exOwners9 g3 _ _ HR3.out (Nat.le_refl _)).mono ?_
  rintro e w4 ⟨A4, cap4, rfl, hr4, hb4⟩
  have HR4 := Lib.hid hr4
  have HB4 := Lib.hid hb4
  clear hr4 hb4
  go_wp2_with fail
  refine (ship_any _).mono ?_
  rintro e w5 ⟨g5, rfl, hr5, hb5⟩
  have HR5 := Lib.hid hr5
  have HB5 := Lib.hid hb5
  clear hr5 hb5
  go_wp2_with fail
  refine (exForgedPacific g5 _ _ HR5.out (Nat.le_refl _)).mono ?_
  rintro e w6 ⟨A6, cap6, rfl, hr6, hb6⟩
  have HR6 := Lib.hid hr6
  have HB6 := Lib.hid hb6
  clear hr6 hb6
  go_wp2_with fail
  refine (estate_any _).mono ?_
  rintro e w7 ⟨g7, rfl, hr7, hb7⟩
  have HR7 := Lib.hid hr7
  have HB7 := Lib.hid hb7
  clear hr7 hb7
  go_wp2_with fail
  refine (exLeast exLeast0 g7 _ _ HR7.out (Nat.le_refl _)).mono ?_
  rintro e w8 ⟨rfl, hb8⟩
  have HB8 := Lib.hid hb8
  clear hb8
  go_wp2_with fail
  refine (estate_any _).mono ?_
  rintro e w9 ⟨g9, rfl, hr9, hb9⟩
  have HR9 := Lib.hid hr9
  have HB9 := Lib.hid hb9
  clear hr9 hb9
  go_wp2_with fail
  refine (exLeast exLeast3 g9 _ _ HR9.out (Nat.le_refl _)).mono ?_
  rintro e w10 ⟨rfl, hb10⟩
  have HB10 := Lib.hid hb10
  clear hb10
  go_wp2_with fail
  refine (words_same A2 (some ⟨w10.heap.size, 0, none⟩) [sClyde, sOrient, sPacific] _ cap2 _ (w10.alloc (.cells #[.string sClyde, .string sOrient, .string sPacific] 9)) (by decide) (rd1_k HR2.out ((belowT (belowT (belowT (belowT (belowT (belowT (belowT HB3.out HB4.out) HB5.out) HB6.out) HB7.out) HB8.out) HB9.out) HB10.out)) _) (rd1_new w10 [sClyde, sOrient, sPacific] 9) (Nat.le_refl _)).mono ?_
  rintro e w11 ⟨rfl, hb11⟩
  have hc11 : Below w10.heap.size w10 w11 := belowT (belowA (belowR _) _) hb11
  clear hb11
  have HB11 := Lib.hid hc11
  clear hc11
  go_wp2_with fail
  refine (words_same A4 (some ⟨w11.heap.size, 0, none⟩) [sClyde] _ cap4 _ (w11.alloc (.cells #[.string sClyde] 9)) (by decide) (rd1_k HR4.out ((belowT (belowT (belowT (belowT (belowT (belowT HB5.out HB6.out) HB7.out) HB8.out) HB9.out) HB10.out) HB11.out)) _) (rd1_new w11 [sClyde] 9) (Nat.le_refl _)).mono ?_
  rintro e w12 ⟨rfl, hb12⟩
  have hc12 : Below w11.heap.size w11 w12 := belowT (belowA (belowR _) _) hb12
  clear hb12
  have HB12 := Lib.hid hc12
  clear hc12
  go_wp2_with fail
  refine (awake_any _).mono ?_
  rintro e w13 ⟨rfl, hb13⟩
  have HB13 := Lib.hid hb13
  clear hb13
  go_wp2
  go_ret
  exact ⟨rfl, (belowT (belowT (belowT (belowT (belowT (belowT (belowT (belowT (belowT (belowT (belowT (belowT HB1.out HB2.out) HB3.out) HB4.out) HB5.out) HB6.out) HB7.out) HB8.out) HB9.out) HB10.out) HB11.out) HB12.out) HB13.out)⟩
end Go.Proofs.Ytblbbhenmhkknaa
