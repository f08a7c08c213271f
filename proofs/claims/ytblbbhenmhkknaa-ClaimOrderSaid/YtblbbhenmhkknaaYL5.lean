/- Awake answers true. -/
import Derived.Test.YtblbbhenmhkknaaYL2
import Derived.Test.YtblbbhenmhkknaaYL4
namespace Go.Proofs.Ytblbbhenmhkknaa
open Go.RowKit

theorem rd1_k {α : Type} {enc : α → Value} {w w' : World} {A : Option Addr} {xs : List α} (h : Rd1 enc w w.heap.size A xs) (hb : Below w.heap.size w w') (ob : Obj) : Rd1 enc (w'.alloc ob) (w'.alloc ob).heap.size A xs := (h.below (belowA hb ob) (Nat.le_refl _)).more (belowA hb ob).size
theorem rdN_k {α : Type} {k : Nat} {encs : α → List Value} {w w' : World} {A : Option Addr} {xs : List α} (h : RdN k encs w w.heap.size A xs) (hb : Below w.heap.size w w') (ob : Obj) : RdN k encs (w'.alloc ob) (w'.alloc ob).heap.size A xs := (h.below (belowA hb ob) (Nat.le_refl _)).more (belowA hb ob).size
theorem rdN_j {α : Type} {k : Nat} {encs : α → List Value} {w w' : World} {A : Option Addr} {xs : List α} (h : RdN k encs w w.heap.size A xs) (hb : Below w.heap.size w w') : RdN k encs w' w'.heap.size A xs := (h.below hb (Nat.le_refl _)).more hb.size
theorem rd1_new {α : Type} {enc : α → Value} (w : World) (xs : List α) (t : TypeId) : Rd1 enc (w.alloc (.cells (xs.map enc).toArray t)) (w.alloc (.cells (xs.map enc).toArray t)).heap.size (some ⟨w.heap.size, 0, none⟩) xs := (rd1_lit (heap_new w _ t)).more (by simp)
theorem rdN_new {α : Type} {k : Nat} {encs : α → List Value} (he : ∀ x, (encs x).length = k) (w : World) (xs : List α) (t : TypeId) : RdN k encs (w.alloc (.cells (xs.flatMap encs).toArray t)) (w.alloc (.cells (xs.flatMap encs).toArray t)).heap.size (some ⟨w.heap.size, 0, none⟩) xs := (rdN_lit he (heap_new w _ t)).more (by simp)

theorem exForgedCash (g B : Nat) (w : World) (hR : RdN 3 encPap w B (some ⟨g, 0, none⟩) exPs) (hB : B ≤ w.heap.size) :
    Calls Try.prog 22 #[.agg #[.string sClyde, .slice (some ⟨g, 0, none⟩) 3 3, .int .i64 1], .int .i64 30, .string sCash] w fun e w' => ∃ A cap, e = .returned (.tuple #[.slice A 1 cap, iv 0]) ∧ Rd1 iv w' w'.heap.size A [1] ∧ Below w.heap.size w w' := exForgedYes exCash g B w hR hB
theorem exForgedPacific (g B : Nat) (w : World) (hR : RdN 3 encPap w B (some ⟨g, 0, none⟩) exPs) (hB : B ≤ w.heap.size) :
    Calls Try.prog 22 #[.agg #[.string sClyde, .slice (some ⟨g, 0, none⟩) 3 3, .int .i64 1], .int .i64 30, .string sPacific] w fun e w' => ∃ A cap, e = .returned (.tuple #[.slice A 0 cap, iv 0]) ∧ Rd1 iv w' w'.heap.size A [] ∧ Below w.heap.size w w' := exForgedYes exPacific g B w hR hB

set_option maxRecDepth 1000000 in
set_option maxHeartbeats 8000000 in
theorem awake_any (w : World) : Calls Try.prog 25 #[] w fun e w' => e = .returned (.bool true) ∧ Below w.heap.size w w' := by
  go_enter Try.func25, Try.ntmps25
  go_wp2_with fail
  refine (ship_any _).mono ?_
  rintro e w1 ⟨g1, rfl, hr1, hb1⟩
  have HR1 := Lib.hid hr1
  have HB1 := Lib.hid hb1
  clear hr1 hb1
  go_wp2_with fail
  refine (exOwners30 g1 _ _ HR1.out (Nat.le_refl _)).mono ?_
  rintro e w2 ⟨A2, cap2, rfl, hr2, hb2⟩
  have HR2 := Lib.hid hr2
  have HB2 := Lib.hid hb2
  clear hr2 hb2
  go_wp2_with fail
  refine (ship_any _).mono ?_
  rintro e w3 ⟨g3, rfl, hr3, hb3⟩
  have HR3 := Lib.hid hr3
  have HB3 := Lib.hid hb3
  clear hr3 hb3
  go_wp2_with fail
  refine (exForgedCash g3 _ _ HR3.out (Nat.le_refl _)).mono ?_
  rintro e w4 ⟨A4, cap4, rfl, hr4, hb4⟩
  have HR4 := Lib.hid hr4
  have HB4 := Lib.hid hb4
  clear hr4 hb4
  go_wp2_with fail
  refine (estate_any _).mono ?_
  rintro e w5 ⟨g5, rfl, hr5, hb5⟩
  have HR5 := Lib.hid hr5
  have HB5 := Lib.hid hb5
  clear hr5 hb5
  go_wp2_with fail
  refine (truthX_any _).mono ?_
  rintro e w6 ⟨g6, rfl, hr6, hb6⟩
  have HR6 := Lib.hid hr6
  have HB6 := Lib.hid hb6
  clear hr6 hb6
  go_wp2_with fail
  refine (exPays g5 g6 _ _ (rdN_j HR5.out HB6.out) HR6.out (Nat.le_refl _)).mono ?_
  rintro e w7 ⟨A7, cap7, rfl, hr7, hb7⟩
  have HR7 := Lib.hid hr7
  have HB7 := Lib.hid hb7
  clear hr7 hb7
  go_wp2_with fail
  refine (estate_any _).mono ?_
  rintro e w8 ⟨g8, rfl, hr8, hb8⟩
  have HR8 := Lib.hid hr8
  have HB8 := Lib.hid hb8
  clear hr8 hb8
  go_wp2_with fail
  refine (exRanges g8 _ _ HR8.out (Nat.le_refl _)).mono ?_
  rintro e w9 ⟨A9, cap9, rfl, hr9, hb9⟩
  have HR9 := Lib.hid hr9
  have HB9 := Lib.hid hb9
  clear hr9 hb9
  go_wp2_with fail
  refine (estate_any _).mono ?_
  rintro e w10 ⟨g10, rfl, hr10, hb10⟩
  have HR10 := Lib.hid hr10
  have HB10 := Lib.hid hb10
  clear hr10 hb10
  go_wp2_with fail
  refine (exSure g10 _ _ HR10.out (Nat.le_refl _)).mono ?_
  rintro e w11 ⟨A11, cap11, rfl, hr11, hb11⟩
  have HR11 := Lib.hid hr11
  have HB11 := Lib.hid hb11
  clear hr11 hb11
  go_wp2_with fail
  refine (estate_any _).mono ?_
  rintro e w12 ⟨g12, rfl, hr12, hb12⟩
  have HR12 := Lib.hid hr12
  have HB12 := Lib.hid hb12
  clear hr12 hb12
  go_wp2_with fail
  refine (exLeast exLeast2 g12 _ _ HR12.out (Nat.le_refl _)).mono ?_
  rintro e w13 ⟨rfl, hb13⟩
  have HB13 := Lib.hid hb13
  clear hb13
  go_wp2_with fail
  refine (estate_any _).mono ?_
  rintro e w14 ⟨g14, rfl, hr14, hb14⟩
  have HR14 := Lib.hid hr14
  have HB14 := Lib.hid hb14
  clear hr14 hb14
  go_wp2_with fail
  refine (truthX_any _).mono ?_
  rintro e w15 ⟨g15, rfl, hr15, hb15⟩
  have HR15 := Lib.hid hr15
  have HB15 := Lib.hid hb15
  clear hr15 hb15
  go_wp2_with fail
  refine (tug_any _).mono ?_
  rintro e w16 ⟨rfl, hb16⟩
  have HB16 := Lib.hid hb16
  clear hb16
  go_wp2_with fail
  refine (exCost g14 g15 _ _ (rdN_j HR14.out (belowT HB15.out HB16.out)) ((HR15.out.below HB16.out (Nat.le_refl _)).more (HB16.out).size) (Nat.le_refl _)).mono ?_
  rintro e w17 ⟨A17, cap17, rfl, hr17, hb17⟩
  have HR17 := Lib.hid hr17
  have HB17 := Lib.hid hb17
  clear hr17 hb17
  go_wp2_with fail
  refine (ship_any _).mono ?_
  rintro e w18 ⟨g18, rfl, hr18, hb18⟩
  have HR18 := Lib.hid hr18
  have HB18 := Lib.hid hb18
  clear hr18 hb18
  go_wp2_with fail
  refine (exForgedNo exOrient g18 _ _ HR18.out (Nat.le_refl _)).mono ?_
  rintro e w19 ⟨rfl, hb19⟩
  have HB19 := Lib.hid hb19
  clear hb19
  go_wp2_with fail
  refine (words_same A2 (some ⟨w19.heap.size, 0, none⟩) [sCash, sClyde, sPacific] _ cap2 _ (w19.alloc (.cells #[.string sCash, .string sClyde, .string sPacific] 9)) (by decide) (rd1_k HR2.out ((belowT (belowT (belowT (belowT (belowT (belowT (belowT (belowT (belowT (belowT (belowT (belowT (belowT (belowT (belowT (belowT HB3.out HB4.out) HB5.out) HB6.out) HB7.out) HB8.out) HB9.out) HB10.out) HB11.out) HB12.out) HB13.out) HB14.out) HB15.out) HB16.out) HB17.out) HB18.out) HB19.out)) _) (rd1_new w19 [sCash, sClyde, sPacific] 9) (Nat.le_refl _)).mono ?_
  rintro e w20 ⟨rfl, hb20⟩
  have hc20 : Below w19.heap.size w19 w20 := belowT (belowA (belowR _) _) hb20
  clear hb20
  have HB20 := Lib.hid hc20
  clear hc20
  go_wp2_with fail
  refine (ints_same A4 (some ⟨w20.heap.size, 0, none⟩) [1] _ cap4 _ (w20.alloc (.cells #[.int .i64 1] 3)) (by decide) (rd1_k HR4.out ((belowT (belowT (belowT (belowT (belowT (belowT (belowT (belowT (belowT (belowT (belowT (belowT (belowT (belowT (belowT HB5.out HB6.out) HB7.out) HB8.out) HB9.out) HB10.out) HB11.out) HB12.out) HB13.out) HB14.out) HB15.out) HB16.out) HB17.out) HB18.out) HB19.out) HB20.out)) _) (rd1_new w20 [1] 3) (Nat.le_refl _)).mono ?_
  rintro e w21 ⟨rfl, hb21⟩
  have hc21 : Below w20.heap.size w20 w21 := belowT (belowA (belowR _) _) hb21
  clear hb21
  have HB21 := Lib.hid hc21
  clear hc21
  go_wp2_with fail
  refine (ints_same A7 (some ⟨w21.heap.size, 0, none⟩) [300, 466, 233, 0] _ cap7 _ (w21.alloc (.cells #[.int .i64 300, .int .i64 466, .int .i64 233, .int .i64 0] 3)) (by decide) (rd1_k HR7.out ((belowT (belowT (belowT (belowT (belowT (belowT (belowT (belowT (belowT (belowT (belowT (belowT (belowT HB8.out HB9.out) HB10.out) HB11.out) HB12.out) HB13.out) HB14.out) HB15.out) HB16.out) HB17.out) HB18.out) HB19.out) HB20.out) HB21.out)) _) (rd1_new w21 [300, 466, 233, 0] 3) (Nat.le_refl _)).mono ?_
  rintro e w22 ⟨rfl, hb22⟩
  have hc22 : Below w21.heap.size w21 w22 := belowT (belowA (belowR _) _) hb22
  clear hb22
  have HB22 := Lib.hid hc22
  clear hc22
  go_wp2_with fail
  refine (span_any _ _ _).mono ?_
  rintro e w23 ⟨rfl, hb23⟩
  have HB23 := Lib.hid hb23
  clear hb23
  go_wp2_with fail
  refine (span_any _ _ _).mono ?_
  rintro e w24 ⟨rfl, hb24⟩
  have HB24 := Lib.hid hb24
  clear hb24
  go_wp2_with fail
  refine (span_any _ _ _).mono ?_
  rintro e w25 ⟨rfl, hb25⟩
  have HB25 := Lib.hid hb25
  clear hb25
  go_wp2_with fail
  refine (span_any _ _ _).mono ?_
  rintro e w26 ⟨rfl, hb26⟩
  have HB26 := Lib.hid hb26
  clear hb26
  go_wp2_with fail
  refine (spans_same A9 (some ⟨w26.heap.size, 0, none⟩) [(300, 400), (400, 654), (163, 300), (0, 0)] _ cap9 _ (w26.alloc (.cells #[.int .i64 300, .int .i64 400, .int .i64 400, .int .i64 654, .int .i64 163, .int .i64 300, .int .i64 0, .int .i64 0] 39)) (by decide) (rdN_k HR9.out ((belowT (belowT (belowT (belowT (belowT (belowT (belowT (belowT (belowT (belowT (belowT (belowT (belowT (belowT (belowT (belowT HB10.out HB11.out) HB12.out) HB13.out) HB14.out) HB15.out) HB16.out) HB17.out) HB18.out) HB19.out) HB20.out) HB21.out) HB22.out) HB23.out) HB24.out) HB25.out) HB26.out)) _) (rdN_new encSp_len w26 [(300, 400), (400, 654), (163, 300), (0, 0)] 39) (Nat.le_refl _)).mono ?_
  rintro e w27 ⟨rfl, hb27⟩
  have hc27 : Below w26.heap.size w26 w27 := belowT (belowA (belowR _) _) hb27
  clear hb27
  have HB27 := Lib.hid hc27
  clear hc27
  go_wp2_with fail
  refine (ints_same A11 (some ⟨w27.heap.size, 0, none⟩) [0] _ cap11 _ (w27.alloc (.cells #[.int .i64 0] 3)) (by decide) (rd1_k HR11.out ((belowT (belowT (belowT (belowT (belowT (belowT (belowT (belowT (belowT (belowT (belowT (belowT (belowT (belowT (belowT HB12.out HB13.out) HB14.out) HB15.out) HB16.out) HB17.out) HB18.out) HB19.out) HB20.out) HB21.out) HB22.out) HB23.out) HB24.out) HB25.out) HB26.out) HB27.out)) _) (rd1_new w27 [0] 3) (Nat.le_refl _)).mono ?_
  rintro e w28 ⟨rfl, hb28⟩
  have hc28 : Below w27.heap.size w27 w28 := belowT (belowA (belowR _) _) hb28
  clear hb28
  have HB28 := Lib.hid hc28
  clear hc28
  go_wp2_with fail
  refine (ints_same A17 (some ⟨w28.heap.size, 0, none⟩) [0, 116, 58, 0] _ cap17 _ (w28.alloc (.cells #[.int .i64 0, .int .i64 116, .int .i64 58, .int .i64 0] 3)) (by decide) (rd1_k HR17.out ((belowT (belowT (belowT (belowT (belowT (belowT (belowT (belowT (belowT (belowT HB18.out HB19.out) HB20.out) HB21.out) HB22.out) HB23.out) HB24.out) HB25.out) HB26.out) HB27.out) HB28.out)) _) (rd1_new w28 [0, 116, 58, 0] 3) (Nat.le_refl _)).mono ?_
  rintro e w29 ⟨rfl, hb29⟩
  have hc29 : Below w28.heap.size w28 w29 := belowT (belowA (belowR _) _) hb29
  clear hb29
  have HB29 := Lib.hid hc29
  clear hc29
  go_wp2
  go_ret
  exact ⟨rfl, (belowT (belowT (belowT (belowT (belowT (belowT (belowT (belowT (belowT (belowT (belowT (belowT (belowT (belowT (belowT (belowT (belowT (belowT (belowT (belowT (belowT (belowT (belowT (belowT (belowT (belowT (belowT (belowT HB1.out HB2.out) HB3.out) HB4.out) HB5.out) HB6.out) HB7.out) HB8.out) HB9.out) HB10.out) HB11.out) HB12.out) HB13.out) HB14.out) HB15.out) HB16.out) HB17.out) HB18.out) HB19.out) HB20.out) HB21.out) HB22.out) HB23.out) HB24.out) HB25.out) HB26.out) HB27.out) HB28.out) HB29.out)⟩
end Go.Proofs.Ytblbbhenmhkknaa
