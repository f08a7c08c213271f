/- ClaimLeast: the walk. -/
import Derived.Deep.DeepCutAuto
import Derived.Test.YtblbbhenmhkknaaYL5
import Derived.Test.YtblbbhenmhkknaaZdd80b8
namespace Go.Proofs.Ytblbbhenmhkknaa
open Go.RowKit

def mixL (cs : List Clm) (ds : List Int) (k : Nat) : List Int := (cs.map Clm.hi).take k ++ ds.drop k
theorem mixL_len {cs : List Clm} {ds : List Int} (h : ds.length = cs.length) {k : Nat} (hk : k ≤ cs.length) : (mixL cs ds k).length = cs.length := by
  unfold mixL; simp; omega
theorem mixL_set {cs : List Clm} {ds : List Int} (h : ds.length = cs.length) {k : Nat} {c : Clm} (hc : cs[k]? = some c) : (mixL cs ds k).set k c.hi = mixL cs ds (k + 1) := by
  have hk : k < cs.length := (List.getElem?_eq_some_iff.1 hc).1
  unfold mixL
  rw [take_step (l := cs.map Clm.hi) (k := k) (x := c.hi) (by rw [List.getElem?_map, hc]; rfl), List.set_append_right _ _ (by simp; omega)]
  have hl : ((cs.map Clm.hi).take k).length = k := by simp; omega
  rw [hl, Nat.sub_self, List.append_assoc]
  congr 1
  rw [List.drop_eq_getElem_cons (show k < ds.length by omega)]
  rfl
theorem mixL_all {cs : List Clm} {ds : List Int} (h : ds.length = cs.length) : mixL cs ds cs.length = cs.map Clm.hi := by
  unfold mixL
  rw [List.drop_eq_nil_of_le (by omega), List.take_of_length_le (by simp), List.append_nil]
structure LInv (b0 g h base gb B : Nat) (w wr : World) (n : Int) (A : Option Addr) (cs : List Clm) (cap cap2 : Nat) (xs : List Int) : Prop where
  e2 : wr.cell? ⟨b0, 2, none⟩ = some (.slice A cs.length cap)
  g1 : wr.cell? ⟨g, 1, none⟩ = some (.slice (some ⟨gb, 0, none⟩) cs.length cap2)
  h0 : wr.cell? ⟨h, 0, none⟩ = some (.int .i64 (n - 1))
  h1 : wr.cell? ⟨h, 1, none⟩ = some (.int .i64 (n - 1))
  h2 : wr.cell? ⟨h, 2, none⟩ = some (.slice A cs.length cap)
  own : wr.ownsRow base 3 1 (.slice (some ⟨gb, 0, none⟩) cs.length cap2) cs.length (xs.map iv)
  rd : RdN 4 encClm wr B A cs
  size : B ≤ wr.heap.size
  bel : Below w.heap.size w wr
theorem LInv.step {b0 g h base gb B : Nat} {w wr wx : World} {n : Int} {A : Option Addr} {cs : List Clm} {cap cap2 : Nat} {xs : List Int} (hI : LInv b0 g h base gb B w wr n A cs cap cap2 xs) (hb : Below wr.heap.size wr wx)
    (e0 : b0 ≠ gb) (eg : g ≠ gb) (eh : h ≠ gb) (eB : B ≤ gb) (ew : w.heap.size ≤ gb) (k : Nat) (X : Int) : LInv b0 g h base gb B w (wx.setCell ⟨gb, k, none⟩ (iv X)) n A cs cap cap2 (xs.set k X) := by
  refine ⟨keepS (keepC hb hI.e2) e0, keepS (keepC hb hI.g1) eg, keepS (keepC hb hI.h0) eh, keepS (keepC hb hI.h1) eh, keepS (keepC hb hI.h2) eh, ?_, fun j x hx => ?_, ?_, belowS (belowT hI.bel hb) ew _⟩
  · have := ((own_below hI.own hb).stored k (iv X)).1
    rw [← List.map_set] at this
    exact this
  · obtain ⟨b, off, e, hlt, hc⟩ := hI.rd j x hx
    exact ⟨b, off, e, hlt, fun q u hu => keepS (keepC hb (hc q u hu)) (by omega)⟩
  · have := hb.size
    have := hI.size
    simp only [World.size_setCell]
    omega

set_option maxRecDepth 1000000 in
set_option maxHeartbeats 8000000 in
theorem leastLaw_no (lo hi : Int) (A : Option Addr) (U : Value) (cs : List Clm) (B cap x0 : Nat) (w : World) (hm : cs.length ≤ cap) (hcm : cap ≤ maxLen) (hok : ClmsOk cs) (hR : RdN 4 encClm w B A cs) (hB : B ≤ w.heap.size) (hb : rightB lo hi cs = false) :
    Calls Try.prog 14 #[.agg #[.int .i64 lo, .int .i64 hi, .slice A cs.length cap], .int .u8 x0, U] w fun e w' => e = .returned (.bool true) ∧ Below w.heap.size w w' := by
  obtain ⟨W1, hW1⟩ : ∃ W1, w.alloc (.cells #[.int .i64 lo, .int .i64 hi, .slice A cs.length cap] 42) = W1 := ⟨_, rfl⟩
  have hb0 : Below w.heap.size w W1 := by rw [← hW1]; exact belowA (belowR _) _
  have p0 : W1.cell? ⟨w.heap.size, 0, none⟩ = some (.int .i64 lo) := by rw [← hW1]; clear hW1; go_simp
  have p1 : W1.cell? ⟨w.heap.size, 1, none⟩ = some (.int .i64 hi) := by rw [← hW1]; clear hW1; go_simp
  have p2 : W1.cell? ⟨w.heap.size, 2, none⟩ = some (.slice A cs.length cap) := by rw [← hW1]; clear hW1; go_simp
  have HB0 := Lib.hid hb0
  have hz1 : w.heap.size < W1.heap.size := lt_of_cell p0
  have hRr := right_any lo hi A cs B cap W1 hm hcm hok (hR.below hb0 hB) (by omega)
  have HR := Lib.hid (hR.below hb0 hB)
  rw [hb] at hRr
  have hE : estErr lo hi cs ≠ 0 := by simpa [rightB] using hb
  have hle := fun W (hR : RdN 4 encClm W B A cs) (hB : B ≤ W.heap.size) => least_any lo hi 0 A cs B cap W hm hcm hok hR hB
  rw [leastR_no hE] at hle
  obtain ⟨E, hEE⟩ : ∃ E, estErr lo hi cs = E := ⟨_, rfl⟩
  rw [hEE] at hE hle
  have hne : (E != 0) = true := by simpa using hE
  have HRR := Lib.hid hRr
  have HLE := Lib.hid hle
  clear hRr hb hle hE hEE hb0 hR
  go_enter Try.func14, Try.ntmps14
  go_wp2_with fail
  refine HRR.out.mono ?_
  rintro e w1 ⟨rfl, hb1⟩
  have s0 := keepC hb1 p0
  have s1 := keepC hb1 p1
  have s2 := keepC hb1 p2
  have hz2 := hb1.size
  have HB1 := Lib.hid hb1
  clear hb1 p0 p1 p2
  go_wp2_with fail
  refine (HLE.out _ (HR.out.below HB1.out (by omega)) (by omega)).mono ?_
  rintro e w2 ⟨rfl, hb2⟩
  have HB2 := Lib.hid hb2
  clear hb2 s0 s1 s2
  go_wp2_with fail
  refine (awake_any _).mono ?_
  rintro e w3 ⟨rfl, hb3⟩
  go_wp2
  go_ret
  exact ⟨rfl, belowT (belowT (belowT HB0.out HB1.out) HB2.out) hb3⟩

set_option maxRecDepth 1000000 in
set_option maxHeartbeats 8000000 in
theorem leastLaw_yes (lo hi : Int) (A U : Option Addr) (cs : List Clm) (us : List Int) (B cap capU x0 : Nat) (w : World) (hm : cs.length ≤ cap) (hcm : cap ≤ maxLen) (hok : ClmsOk cs) (hR : RdN 4 encClm w B A cs) (hB : B ≤ w.heap.size)
    (hU : Rd1 uv w B U us) (hul : us.length ≤ maxLen) (hub : ∀ x ∈ us, 0 ≤ x ∧ x ≤ 4294967295) (hx0 : x0 ≤ 255) (hb : rightB lo hi cs = true) :
    Calls Try.prog 14 #[.agg #[.int .i64 lo, .int .i64 hi, .slice A cs.length cap], .int .u8 x0, .slice U us.length capU] w fun e w' => e = .returned (.bool true) ∧ Below w.heap.size w w' := by
  obtain ⟨W1, hW1⟩ : ∃ W1, w.alloc (.cells #[.int .i64 lo, .int .i64 hi, .slice A cs.length cap] 42) = W1 := ⟨_, rfl⟩
  have hb0 : Below w.heap.size w W1 := by rw [← hW1]; exact belowA (belowR _) _
  have p0 : W1.cell? ⟨w.heap.size, 0, none⟩ = some (.int .i64 lo) := by rw [← hW1]; clear hW1; go_simp
  have p1 : W1.cell? ⟨w.heap.size, 1, none⟩ = some (.int .i64 hi) := by rw [← hW1]; clear hW1; go_simp
  have p2 : W1.cell? ⟨w.heap.size, 2, none⟩ = some (.slice A cs.length cap) := by rw [← hW1]; clear hW1; go_simp
  have HB0 := Lib.hid hb0
  have hz1 : w.heap.size < W1.heap.size := lt_of_cell p0
  have hRr := right_any lo hi A cs B cap W1 hm hcm hok (hR.below hb0 hB) (by omega)
  have HR := Lib.hid (hR.below hb0 hB)
  have HU := Lib.hid (hU.below hb0 hB)
  rw [hb] at hRr
  have hE : estErr lo hi cs = 0 := by simpa [rightB] using hb
  have hest := est_ok hE
  have hle8 := hest.len.2
  have hge1 := hest.len.1
  have hmi : x0 % cs.length < cs.length := Nat.mod_lt _ (by omega)
  obtain ⟨a, ha0⟩ : ∃ a, x0 % cs.length = a := ⟨_, rfl⟩
  rw [ha0] at hmi
  have hmod : (x0 : Int) % (cs.length : Int) = (a : Int) := by rw [← ha0]; simp
  obtain ⟨c, hc⟩ : ∃ c, cs[a]? = some c := ⟨_, List.getElem?_eq_getElem hmi⟩
  have hwx0 : IntKind.i64.wrap (x0 : Int) = (x0 : Int) := by rw [IntKind.wrap_i64]; omega
  have hx00 : (0 : Int) ≤ (x0 : Int) := by omega
  have haz : (a : Int) < (cs.length : Int) := by omega
  have ha00 : (0 : Int) ≤ (a : Int) := by omega
  have hnn := need_nonneg (c := c3 c) hE
  have hle := fun W (hR : RdN 4 encClm W B A cs) (hB : B ≤ W.heap.size) => least_any lo hi a A cs B cap W hm hcm hok hR hB
  rw [leastR_at hE hc] at hle
  obtain ⟨n, hn⟩ : ∃ n, needI (cs.map c3) (c3 c) = n := ⟨_, rfl⟩
  rw [hn] at hle hnn
  simp only at hle
  have hd0 : decide (n < 0) = false := by simp; omega
  have HRR := Lib.hid hRr
  have HLE := Lib.hid hle
  have HN := Lib.hid hn
  have HC := Lib.hid hc
  have HE := Lib.hid hE
  clear hRr hb hle hE hb0 hR hU hest hn ha0 hc
  go_enter Try.func14, Try.ntmps14
  go_wp2_with fail
  refine HRR.out.mono ?_
  rintro e w1 ⟨rfl, hb1⟩
  have s0 := keepC hb1 p0
  have s1 := keepC hb1 p1
  have s2 := keepC hb1 p2
  have hz2 := hb1.size
  have HB1 := Lib.hid hb1
  have HR1 := Lib.hid (HR.out.below hb1 (by omega))
  have HU1 := Lib.hid (HU.out.below hb1 (by omega))
  clear hb1 HR HU HRR p0 p1 p2 hW1
  go_wp2_with fail
  refine (HLE.out _ HR1.out (by omega)).mono ?_
  rintro e w2 ⟨rfl, hb2⟩
  have r0 := keepC hb2 s0
  have r1 := keepC hb2 s1
  have r2 := keepC hb2 s2
  have hz3 := hb2.size
  have HR2 := Lib.hid (HR1.out.below hb2 (by omega))
  have HU2 := Lib.hid (HU1.out.below hb2 (by omega))
  have HB2 := Lib.hid (belowT HB1.out hb2)
  clear hb2 s0 s1 s2 HR1 HU1 HB1 HLE
  by_cases hbig : 1000000000 < n
  · have hnot := sureL_not HE.out HC.out (by rw [HN.out]; exact hbig)
    have hsu := fun W (hR : RdN 4 encClm W B A cs) (hB : B ≤ W.heap.size) => sure_yes lo hi A cs B cap W hm hcm hok hR hB HE.out
    unfold SureYes at hsu
    obtain ⟨SL, hSL⟩ : ∃ SL, sureL lo (cs.map c3) cs.length = SL := ⟨_, rfl⟩
    rw [hSL] at hsu hnot
    have hsl8 : SL.length ≤ 8 := by have := sureL_le lo (cs.map c3) cs.length; rw [hSL] at this; omega
    have HSU := Lib.hid hsu
    have HNOT := Lib.hid hnot
    clear hsu hnot hSL
    go_wp2_with fail
    refine (HSU.out _ HR2.out (by omega)).mono ?_
    rintro e w3 ⟨vs, rfl, hown3, hb3⟩
    obtain ⟨A8, cap8, rfl, hrs, hx6⟩ := own_rd1 hown3
    clear hx6
    have HS3 := Lib.hid hrs
    have HB3 := Lib.hid (belowT HB2.out hb3)
    clear hb3 hrs hown3 r0 r1 r2 HSU HR2 HU2
    go_wp2
    go_loopw [14] (fun vi wr => ∃ k : Nat, k ≤ SL.length ∧ vi = .int .i64 k ∧ Hid (Below w3.heap.size w3 wr)) (fun vi _ => SL.length - (intOf vi).toNat)
    case atStart => exact ⟨0, Nat.zero_le _, rfl, Lib.hid (belowR _)⟩
    case round =>
      obtain ⟨k, hk, rfl, HBR⟩ := hrel
      by_cases hlt : k < SL.length
      · obtain ⟨v, hv⟩ : ∃ v, SL[k]? = some v := ⟨_, List.getElem?_eq_getElem hlt⟩
        obtain ⟨b3, o3, rfl, _, c3'⟩ := (HS3.out.below HBR.out (Nat.le_refl _)) k v hv
        have hne : v ≠ a := fun e => HNOT.out (e ▸ List.mem_of_getElem? hv)
        have hva : ((v : Int) == (a : Int)) = false := by simp; omega
        have hkz : (k : Int) < (SL.length : Int) := by omega
        have hk0 : (0 : Int) ≤ (k : Int) := by omega
        clear hv hne
        go_wp2
        go_roundw
        case rel => exact ⟨k + 1, by omega, by go_num, HBR⟩
        case measure => simp [intOf]; omega
      · obtain rfl : k = SL.length := by omega
        go_wp2_with fail
        refine (awake_any _).mono ?_
        rintro e w9 ⟨rfl, hb9⟩
        go_wp2
        go_ret
        exact ⟨rfl, belowT HB0.out (belowT HB3.out (belowT HBR.out hb9))⟩
  have hn9 : n ≤ 1000000000 := by omega
  -- the estate of these proceeds
  have hE2 := est_span (lo' := n) (hi' := n) HE.out hnn (Int.le_refl _) hn9
  have ht := any_truth (us := us) hE2
  have hany := fun W (hR : RdN 4 encClm W W.heap.size A cs) (hU : Rd1 uv W W.heap.size U us) => any_any n n A U cs us W.heap.size cap capU W hR (Nat.le_refl _) hU hul hub hE2
  unfold AnyPost at hany
  have hP : anyP n n us = n := by
    have := amongI_bd (lo := n) (hi := n) (n := turnI us 0) (Int.le_refl _)
    unfold anyP; omega
  obtain ⟨ds, hds⟩ : ∃ ds, anyD cs us cs.length = ds := ⟨_, rfl⟩
  have hdl : ds.length = cs.length := by rw [← hds]; exact anyD_len _ _ _
  rw [hP, hds] at ht hany
  have hto := (truthE_ok ht).1
  obtain ⟨d, hd⟩ : ∃ d, ds[a]? = some d := ⟨_, List.getElem?_eq_getElem (by omega)⟩
  have hful := sure_full (n := n) hto HC.out hd (by rw [HN.out]; exact Int.le_refl _) (Int.le_refl _)
  have hpy := fun W A2 cap2 (hR : RdN 4 encClm W W.heap.size A cs) (hD : Rd1 iv W W.heap.size A2 ds) => pays_yes n n A A2 cs W.heap.size cap cap2 n ds W hm hcm hok hR (Nat.le_refl _) hD ht
  rw [hdl] at hpy
  unfold PaysYes at hpy
  have hpa : (pays (jl cs ds) n)[a]? = some d := by
    have hj := jl_at (ds := ds) HC.out
    rw [getD_at hd] at hj
    rw [pays_get hj, hful]
  have hpl : (pays (jl cs ds) n).length = cs.length := by rw [pays_len, jl_len]
  obtain ⟨PL, hPL⟩ : ∃ l, pays (jl cs ds) n = l := ⟨_, rfl⟩
  rw [hPL] at hpy hpa hpl
  obtain ⟨RS, hRS⟩ : ∃ r, n - PL.sum = r := ⟨_, rfl⟩
  rw [hRS] at hpy
  have HANY := Lib.hid hany
  have HPY := Lib.hid hpy
  have HPA := Lib.hid hpa
  have HPL := Lib.hid hpl
  have HD := Lib.hid hd
  have HDL := Lib.hid hdl
  clear hE2 ht hany hP hds hdl hto hd hful hpy hpa hpl hPL hRS
  go_wp2_with fail
  refine (span_any n n _).mono ?_
  rintro e w3 ⟨rfl, hb3⟩
  have j0 : w3.cell? ⟨w2.heap.size, 0, none⟩ = some (.int .i64 lo) := keepC hb3 (by go_simp)
  have j1 : w3.cell? ⟨w2.heap.size, 1, none⟩ = some (.int .i64 hi) := keepC hb3 (by go_simp)
  have j2 : w3.cell? ⟨w2.heap.size, 2, none⟩ = some (.slice A cs.length cap) := keepC hb3 (by go_simp)
  have jf : ∀ o, w3.frozen? ⟨w2.heap.size, o, none⟩ = false := fun o => (World.frozen?_of_block (a := ⟨w2.heap.size, o, none⟩) (hb3.block _ (by simp))).trans (by go_simp)
  have jf0 := jf 0
  have jf1 := jf 1
  have hB23 : Below w2.heap.size w2 w3 := belowT (belowA (belowR _) _) hb3
  have hz4 : w2.heap.size < w3.heap.size := lt_of_cell j0
  have t0 := keepC hB23 r0
  have t1 := keepC hB23 r1
  have t2 := keepC hB23 r2
  have HB23 := Lib.hid hB23
  clear hb3 hB23 jf
  go_upto_region 18 with fail
  obtain ⟨W4, hW4⟩ : ∃ W, (w3.setCell ⟨w2.heap.size, 0, none⟩ (.int .i64 n)).setCell ⟨w2.heap.size, 1, none⟩ (.int .i64 n) = W := ⟨_, rfl⟩
  have hB24 : Below w2.heap.size w2 W4 := by rw [← hW4]; exact belowS (belowS HB23.out (Nat.le_refl _) _) (Nat.le_refl _) _
  have l0 : W4.cell? ⟨w2.heap.size, 0, none⟩ = some (.int .i64 n) := by rw [← hW4]; clear hW4; go_simp
  have l1 : W4.cell? ⟨w2.heap.size, 1, none⟩ = some (.int .i64 n) := by rw [← hW4]; clear hW4; go_simp
  have l2 : W4.cell? ⟨w2.heap.size, 2, none⟩ = some (.slice A cs.length cap) := by rw [← hW4]; clear hW4; go_simp
  have hz5 : w2.heap.size < W4.heap.size := lt_of_cell l0
  have u0 := keepC hB24 r0
  have u1 := keepC hB24 r1
  have u2 := keepC hB24 r2
  have HR4 := Lib.hid (HR2.out.below hB24 (by omega))
  have HU4 := Lib.hid (HU2.out.below hB24 (by omega))
  have HB4 := Lib.hid (belowT HB2.out hB24)
  try rw [hW4]
  clear hW4 hB24 j0 j1 j2 jf0 jf1 t0 t1 t2 r0 r1 r2 HB23 HR2 HU2 HB2 hz4
  go_wp2_with fail
  refine (HANY.out _ (HR4.out.more (by omega)) (HU4.out.more (by omega))).mono ?_
  rintro e w5 ⟨A2, cap2, rfl, hown5, hb5⟩
  obtain ⟨gb, cap2', heq, hgb, hgb', _⟩ := own_form hown5 hge1
  injection heq with heq1 _ heq3
  subst heq1 heq3
  have v0 := keepC hb5 u0
  have v1 := keepC hb5 u1
  have v2 := keepC hb5 u2
  have m0 := keepC hb5 l0
  have m1 := keepC hb5 l1
  have m2 := keepC hb5 l2
  have hz6 := hb5.size
  have HOWN5 := Lib.hid hown5
  have HR5 := Lib.hid (HR4.out.below hb5 (by omega))
  have HB5 := Lib.hid (belowT HB4.out hb5)
  clear hb5 hown5 u0 u1 u2 l0 l1 l2 HR4 HU4 HB4 HANY
  go_upto_region 19 with fail
  obtain ⟨W6, hW6⟩ : ∃ W, w5.alloc (.cells #[.int .i64 n, .slice (some ⟨gb, 0, none⟩) cs.length cap2] 44) = W := ⟨_, rfl⟩
  have hb6 : Below w5.heap.size w5 W6 := by rw [← hW6]; exact belowA (belowR _) _
  have k0 : W6.cell? ⟨w5.heap.size, 0, none⟩ = some (.int .i64 n) := by rw [← hW6]; clear hW6; go_simp
  have k1 : W6.cell? ⟨w5.heap.size, 1, none⟩ = some (.slice (some ⟨gb, 0, none⟩) cs.length cap2) := by rw [← hW6]; clear hW6; go_simp
  have hz7 : w5.heap.size < W6.heap.size := lt_of_cell k0
  have x0' := keepC hb6 v0
  have x1' := keepC hb6 v1
  have x2' := keepC hb6 v2
  have y0 := keepC hb6 m0
  have y1 := keepC hb6 m1
  have y2 := keepC hb6 m2
  have HOWN6 := Lib.hid (own_below HOWN5.out hb6)
  have HR6 := Lib.hid (HR5.out.below hb6 (by omega))
  have HB6 := Lib.hid (belowT HB5.out hb6)
  try rw [hW6]
  clear hW6 hb6 v0 v1 v2 m0 m1 m2 HOWN5 HR5 HB5
  go_wp2_with fail
  refine (HPY.out _ _ cap2 (HR6.out.more (by omega)) (own_rd1' HOWN6.out HDL.out)).mono ?_
  rintro e w7 ⟨A7, cap7, rfl, hown7, hb7⟩
  have q0 := keepC hb7 x0'
  have q1 := keepC hb7 x1'
  have q2 := keepC hb7 x2'
  have g0 := keepC hb7 k0
  have g1 := keepC hb7 k1
  have hz8 := hb7.size
  have HOWN7 := Lib.hid (own_below HOWN6.out hb7)
  have HP7 := Lib.hid (own_rd1' hown7 HPL.out)
  have HR7 := Lib.hid (HR6.out.below hb7 (by omega))
  have HB7 := Lib.hid (belowT HB6.out hb7)
  clear hb7 hown7 x0' x1' x2' y0 y1 y2 k0 k1 HOWN6 HR6 HB6 HPY
  obtain ⟨b8, o8, rfl, _, f8⟩ := HP7.out a d HPA.out
  have f9 := HOWN7.out.cellAt a (by omega)
  rw [List.getElem?_map, HD.out] at f9
  simp only [Option.map_some] at f9
  go_wp2
  go_quiet (fail)
  have hB78 : Below w7.heap.size w7 (w7.drewN nq) := belowN (belowR _) _
  have q0 := keepC hB78 q0
  have q1 := keepC hB78 q1
  have q2 := keepC hB78 q2
  have g0 := keepC hB78 g0
  have g1 := keepC hB78 g1
  have HOWN8 := Lib.hid (own_below HOWN7.out hB78)
  have HR8 := Lib.hid (HR7.out.below hB78 (by omega))
  have HB8 := Lib.hid (belowT HB7.out hB78)
  have hz9 : w7.heap.size ≤ (w7.drewN nq).heap.size := hB78.size
  clear hB78 f8 f9 HOWN7 HR7 HB7 HP7 HPA HD
  generalize w7.drewN nq = W8 at *
  by_cases hzn : n = 0
  · have hzn1 : (n == 0) = true := by simp [hzn]
    go_wp2_with fail
    refine (awake_any _).mono ?_
    rintro e w9 ⟨rfl, hb9⟩
    go_wp2
    go_ret
    exact ⟨rfl, belowT HB0.out (belowT HB8.out hb9)⟩
  have hzn1 : (n == 0) = false := by simp [hzn]
  have hn1 : 1 ≤ n := by omega
  have hw1 : IntKind.i64.wrap (n - 1) = n - 1 := by rw [IntKind.wrap_i64]; omega
  go_upto_region 24 with fail
  obtain ⟨W9, hW9⟩ : ∃ W, W8.alloc (.cells #[.int .i64 lo, .int .i64 hi, .slice A cs.length cap] 42) = W := ⟨_, rfl⟩
  have hb9 : Below W8.heap.size W8 W9 := by rw [← hW9]; exact belowA (belowR _) _
  have j0 : W9.cell? ⟨W8.heap.size, 0, none⟩ = some (.int .i64 lo) := by rw [← hW9]; clear hW9; go_simp
  have j1 : W9.cell? ⟨W8.heap.size, 1, none⟩ = some (.int .i64 hi) := by rw [← hW9]; clear hW9; go_simp
  have j2 : W9.cell? ⟨W8.heap.size, 2, none⟩ = some (.slice A cs.length cap) := by rw [← hW9]; clear hW9; go_simp
  have jf : ∀ o, W9.frozen? ⟨W8.heap.size, o, none⟩ = false := fun o => by rw [← hW9]; clear hW9; go_simp
  have hz10 : W8.heap.size < W9.heap.size := lt_of_cell j0
  have q2 := keepC hb9 q2
  have g0 := keepC hb9 g0
  have g1 := keepC hb9 g1
  have HOWN9 := Lib.hid (own_below HOWN8.out hb9)
  have HR9 := Lib.hid (HR8.out.below hb9 (by omega))
  have HB9 := Lib.hid (belowT HB8.out hb9)
  have HJF := Lib.hid jf
  go_upto_region 25 with fail
  try rw [hW9]
  clear hW9 hb9 jf HOWN8 HR8 HB8 q0 q1
  go_wp2_with fail
  refine (span_any (n - 1) (n - 1) _).mono ?_
  rintro e w10 ⟨rfl, hb10⟩
  have i0 := keepC hb10 j0
  have i1 := keepC hb10 j1
  have i2 := keepC hb10 j2
  have if0 : w10.frozen? ⟨W8.heap.size, 0, none⟩ = false := (keepF hb10 j0).trans (HJF.out 0)
  have if1 : w10.frozen? ⟨W8.heap.size, 1, none⟩ = false := (keepF hb10 j1).trans (HJF.out 1)
  have z2 := keepC hb10 q2
  have z1 := keepC hb10 g1
  have hz11 := hb10.size
  have hO10 := own_below HOWN9.out hb10
  have hR10 := HR9.out.below hb10 (by omega)
  have hB10 := belowT HB0.out (belowT HB9.out hb10)
  clear hb10 j0 j1 j2 q2 g0 g1 HOWN9 HR9 HB9 HJF
  have hgne : w5.heap.size ≠ gb := by omega
  have hhne : W8.heap.size ≠ gb := by omega
  have hbne : w.heap.size ≠ gb := by omega
  have hBgb : B ≤ gb := by omega
  have hwgb : w.heap.size ≤ gb := by omega
  have hne1 : w.heap.size ≠ W8.heap.size := by omega
  have hne2 : w5.heap.size ≠ W8.heap.size := by omega
  have hinv : LInv w.heap.size w5.heap.size W8.heap.size W4.heap.size gb B w ((w10.setCell ⟨W8.heap.size, 0, none⟩ (.int .i64 (n - 1))).setCell ⟨W8.heap.size, 1, none⟩ (.int .i64 (n - 1))) n A cs cap cap2 (mixL cs ds 0) := by
    refine ⟨keepS (keepS z2 hne1) hne1, keepS (keepS z1 hne2) hne2, by go_simp, by go_simp, by go_simp, ?_, fun j x hx => ?_, by simp only [World.size_setCell]; omega, belowS (belowS hB10 (by simp; omega) _) (by simp; omega) _⟩
    · have e : mixL cs ds 0 = ds := by simp [mixL]
      rw [e]
      have eo : ∀ o, (Value.slice (some ⟨gb, 0, none⟩) cs.length cap2).ownBlock ≠ some (⟨W8.heap.size, o, none⟩ : Addr).block := fun o h => hhne (by simpa [Value.ownBlock] using h.symm)
      exact ownsRow_setCell_other (ownsRow_setCell_other hO10 (a := ⟨W8.heap.size, 0, none⟩) (eo 0) _) (a := ⟨W8.heap.size, 1, none⟩) (eo 1) _
    · obtain ⟨b, off, e, hlt, hc⟩ := hR10 j x hx
      exact ⟨b, off, e, hlt, fun q u hu => keepS (keepS (hc q u hu) (by omega)) (by omega)⟩
  have HINV := Lib.hid hinv
  clear hinv hO10 hR10 hB10
  go_upto_region 26 with fail
  generalize (w10.setCell ⟨W8.heap.size, 0, none⟩ (.int .i64 (n - 1))).setCell ⟨W8.heap.size, 1, none⟩ (.int .i64 (n - 1)) = W11 at *
  clear i0 i1 i2 if0 if1 z1 z2
  go_wp2
  go_loopw [21] (fun vi wr => ∃ k : Nat, k ≤ cs.length ∧ vi = .int .i64 k ∧ Hid (LInv w.heap.size w5.heap.size W8.heap.size W4.heap.size gb B w wr n A cs cap cap2 (mixL cs ds k))) (fun vi _ => cs.length - (intOf vi).toNat)
  case atStart => exact ⟨0, Nat.zero_le _, rfl, HINV⟩
  case round =>
    clear HINV
    obtain ⟨k, hk, rfl, HI⟩ := hrel
    have e2 := HI.out.e2
    have g1 := HI.out.g1
    by_cases hlt : k < cs.length
    · obtain ⟨ck, hx⟩ : ∃ x, cs[k]? = some x := ⟨_, List.getElem?_eq_getElem hlt⟩
      have hset := mixL_set HDL.out hx
      obtain ⟨bc, oc, hAe, hbl, _, _, _, e3⟩ := clmAt HI.out.rd hx
      obtain ⟨X, hX⟩ : ∃ X, ck.hi = X := ⟨_, rfl⟩
      rw [hX] at hset e3
      obtain ⟨y, hy⟩ : ∃ y, (mixL cs ds k)[k]? = some y := ⟨_, List.getElem?_eq_getElem (by rw [mixL_len HDL.out hk]; exact hlt)⟩
      have hgc := HI.out.own.cellAt k (by omega)
      rw [List.getElem?_map, hy] at hgc
      simp only [Option.map_some] at hgc
      have hgf := HI.out.own.frozenAt k
      have hbcne : bc ≠ gb := by omega
      have HSET := Lib.hid hset
      have hkz : (k : Int) < (cs.length : Int) := by omega
      have hk0 : (0 : Int) ≤ (k : Int) := by omega
      subst hAe
      have HAE := Lib.hid hbl
      clear hset hX hx hy hbl
      go_wp2
      go_region_held3 (fun w' => w'.cell? ⟨w5.heap.size, 1, none⟩ = some (.slice (some ⟨gb, 0, none⟩) cs.length cap2) ∧ w'.cell? ⟨w.heap.size, 2, none⟩ = some (.slice (some ⟨bc, oc, none⟩) cs.length cap) ∧ w'.cell? ⟨bc, oc + k * 4 + 3, none⟩ = some (.int .i64 X)) (first | exact ⟨keepS (keepC (belowDr (belowR wr)) g1) hgne, keepS (keepC (belowDr (belowR wr)) e2) hbne, keepS (keepC (belowDr (belowR wr)) e3) hbcne⟩ | exact ⟨g1, e2, e3⟩) (fail)
      go_wp2
      go_roundw
      case rel => exact ⟨k + 1, by omega, by go_num, Lib.hid (by rw [← HSET.out]; exact HI.out.step (belowDr (belowR wr)) hbne hgne hhne hBgb hwgb k X)⟩
      case measure => simp [intOf]; omega
    · obtain rfl : k = cs.length := by omega
      have hinv := HI.out
      rw [mixL_all HDL.out] at hinv
      have hE3 := est_span (lo' := n - 1) (hi' := n - 1) HE.out (by omega) (Int.le_refl _) (by omega)
      have htw := truthE_mk (worst_ok (P := n - 1) hE3 (Int.le_refl _) (Int.le_refl _))
      have hsh := least_short HE.out HC.out HN.out hn1 hn9
      have hwl : (cs.map Clm.hi).length = cs.length := by simp
      have hpy := pays_yes (n - 1) (n - 1) A (some ⟨gb, 0, none⟩) cs wr.heap.size cap cap2 (n - 1) (cs.map Clm.hi) wr hm hcm hok (hinv.rd.more hinv.size) (Nat.le_refl _) (own_rd1' hinv.own hwl) htw
      rw [hwl] at hpy
      unfold PaysYes at hpy
      have hwp : (pays (jl cs (cs.map Clm.hi)) (n - 1))[a]? = some (payAt (jl cs (cs.map Clm.hi)) (n - 1) ⟨c.rank, c.hi, c.hi⟩) := pays_get (by rw [jl_at HC.out, getD_at (by rw [List.getElem?_map, HC.out]; rfl)])
      have hpl : (pays (jl cs (cs.map Clm.hi)) (n - 1)).length = cs.length := by rw [pays_len, jl_len]
      obtain ⟨PL2, hPL2⟩ : ∃ l, pays (jl cs (cs.map Clm.hi)) (n - 1) = l := ⟨_, rfl⟩
      obtain ⟨Z, hZ⟩ : ∃ z, payAt (jl cs (cs.map Clm.hi)) (n - 1) ⟨c.rank, c.hi, c.hi⟩ = z := ⟨_, rfl⟩
      rw [hZ] at hwp hsh
      rw [hPL2] at hpy hwp hpl
      obtain ⟨R2, hR2⟩ : ∃ r, n - 1 - PL2.sum = r := ⟨_, rfl⟩
      rw [hR2] at hpy
      have HPY2 := Lib.hid hpy
      have HWP := Lib.hid hwp
      have HPL2 := Lib.hid hpl
      have i0 := hinv.h0
      have i1 := hinv.h1
      have i2 := hinv.h2
      have HINV := Lib.hid hinv
      clear hinv hE3 htw hwl hpy hwp hpl hPL2 hZ hR2
      go_wp2_with fail
      refine HPY2.out.mono ?_
      rintro e w12 ⟨A12, cap12, rfl, hown12, hb12⟩
      have e2 := keepC hb12 e2
      obtain ⟨b5, o5, hAe, _, _, _, _, e3⟩ := clmAt (HINV.out.rd.below hb12 HINV.out.size) HC.out
      obtain ⟨b6, o6, rfl, _, f6⟩ := (own_rd1' hown12 HPL2.out) a Z HWP.out
      have HB12 := Lib.hid (belowT HINV.out.bel hb12)
      subst hAe
      obtain ⟨chi, hchi⟩ : ∃ h, c.hi = h := ⟨_, rfl⟩
      rw [hchi] at hsh e3
      have hsd : decide (Z < chi) = true := by simp; exact hsh
      clear hb12 hown12 g1 i0 i1 i2 HPY2 HWP HPL2 HINV HI HC HE HN hchi hok hk hlt
      go_wp2
      go_region_held3 (fun w' => w'.cell? ⟨b6, o6 + a, none⟩ = some (.int .i64 Z) ∧ w'.cell? ⟨w.heap.size, 2, none⟩ = some (.slice (some ⟨b5, o5, none⟩) cs.length cap) ∧ w'.cell? ⟨b5, o5 + a * 4 + 3, none⟩ = some (.int .i64 chi)) (first | exact ⟨keepC hb13 f6, keepC hb13 e2, keepC hb13 e3⟩ | exact ⟨f6, e2, e3⟩) (first | (go_at_call 25; ((with_reducible refine (awake_any _).mono ?_); rintro e w13 ⟨rfl, hb13⟩)))
      go_wp2
      go_ret
      exact ⟨rfl, belowT HB12.out (undrew0 hb13)⟩

theorem leastLaw_any (lo hi : Int) (A U : Option Addr) (cs : List Clm) (us : List Int) (B cap capU x0 : Nat) (w : World) (hm : cs.length ≤ cap) (hcm : cap ≤ maxLen) (hok : ClmsOk cs) (hR : RdN 4 encClm w B A cs) (hB : B ≤ w.heap.size)
    (hU : Rd1 uv w B U us) (hul : us.length ≤ maxLen) (hub : ∀ x ∈ us, 0 ≤ x ∧ x ≤ 4294967295) (hx0 : x0 ≤ 255) :
    Calls Try.prog 14 #[.agg #[.int .i64 lo, .int .i64 hi, .slice A cs.length cap], .int .u8 x0, .slice U us.length capU] w fun e w' => e = .returned (.bool true) ∧ Below w.heap.size w w' := by
  cases hb : rightB lo hi cs
  · exact leastLaw_no lo hi A _ cs B cap x0 w hm hcm hok hR hB hb
  · exact leastLaw_yes lo hi A U cs us B cap capU x0 w hm hcm hok hR hB hU hul hub hx0 hb
end Go.Proofs.Ytblbbhenmhkknaa
