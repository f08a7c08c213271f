/- (claim.estate).need and claim.Least. -/
import Derived.Test.YtblbbhenmhkknaaW22
import Derived.Test.YtblbbhenmhkknaaEst
namespace Go.Proofs.Ytblbbhenmhkknaa
open Go.RowKit

/-- The greatest cents of the claims of the first ranks. -/
def upToH (l : List Cl3) : Nat → Int
  | 0 => 0
  | r + 1 => upToH l r + sumR Cl3.hi l r
/-- The least proceeds with which a claim is surely paid. -/
def needI (l : List Cl3) (c : Cl3) : Int := if c.hi = 0 then 0 else upToH l (c.rank.toNat + 1)
theorem upToH_bd (l : List Cl3) (hok : C3Ok l) (hm : l.length ≤ 9) : ∀ r : Nat, 0 ≤ upToH l r ∧ upToH l r ≤ r * 9000000000 := by
  intro r
  induction r with
  | zero => simp [upToH]
  | succ r ih =>
    have := sumR_bound (f := Cl3.hi) l r fun x hx => ⟨(hok x hx).2.2.2.2.1, (hok x hx).2.2.2.2.2⟩
    simp only [upToH]
    omega

set_option maxRecDepth 100000 in
set_option maxHeartbeats 2000000 in
theorem need_any (lo hi : Int) (A A3 : Option Addr) (n cap cap3 i : Nat) (l : List Cl3) (c : Cl3) (B : Nat) (w : World) (hm : l.length ≤ 9) (hok : C3Ok l) (hR : RdN 3 encC3 w B A3 l) (hB : B ≤ w.heap.size) (hx : l[i]? = some c) :
    Calls Try.prog 86 #[.agg #[.int .i64 lo, .int .i64 hi, .slice A n cap, .slice A3 l.length cap3], .int .i64 i] w fun e w' => e = .returned (iv (needI l c)) ∧ Below w.heap.size w w' := by
  have hil := (List.getElem?_eq_some_iff.1 hx).1
  obtain ⟨hr1, hr5, hl0, hl9, hh0, hh9⟩ := hok c (List.mem_of_getElem? hx)
  obtain ⟨b, off, rfl, hbB, e0, e1, e2⟩ := c3At hR hx
  have hiz : (i : Int) < (l.length : Int) := by omega
  have hi0 : (0 : Int) ≤ (i : Int) := by omega
  have k0 := fun ob => keepA e0 ob
  have k1 := fun ob => keepA e1 ob
  have k2 := fun ob => keepA e2 ob
  obtain ⟨rank, clo, chi⟩ := c
  simp only at e0 e1 e2 k0 k1 k2 hr1 hr5 hl0 hl9 hh0 hh9
  obtain ⟨rk, rfl⟩ : ∃ r : Nat, rank = r := ⟨rank.toNat, by omega⟩
  have HX := Lib.hid hx
  clear hx
  by_cases hz : chi = 0
  · subst hz
    go_enter Try.func86, Try.ntmps86
    go_wp2
    go_ret
    exact ⟨by simp [needI], belowA (belowA (belowR _) _) _⟩
  · have hne : (chi == 0) = false := beq_eq_false_iff_ne.2 hz
    have hnd : needI l ⟨rk, clo, chi⟩ = upToH l (rk + 1) := by simp [needI, hz]
    have HND := Lib.hid hnd
    have hs := fun W (hR : RdN 3 encC3 W W.heap.size (some ⟨b, off, none⟩) l) => summed_hi (some ⟨b, off, none⟩) l W.heap.size cap3 W hm hok hR (Nat.le_refl _)
    have HS := Lib.hid hs
    have HOK := Lib.hid hok
    have hbw0 : Below w.heap.size w _ := belowA (belowA (belowR w) (.cells #[.int .i64 lo, .int .i64 hi, .slice A n cap, .slice (some ⟨b, off, none⟩) l.length cap3] 127)) (.cells #[.int .i64 rk, .int .i64 clo, .int .i64 chi] 125)
    have hrd := (hR.below hbw0 hB).more (Nat.le_trans hB hbw0.size)
    have HRD := Lib.hid hrd
    clear hnd hs hok hR hrd hz
    go_enter Try.func86, Try.ntmps86
    go_wp2_with fail
    refine (HS.out _ HRD.out).mono ?_
    rintro e w1 ⟨rfl, hb⟩
    have hB1 := belowT hbw0 hb
    have q0 : w1.cell? ⟨w.heap.size + 1, 0, none⟩ = some (.int .i64 rk) := keepC hb (by go_simp)
    unfold sums
    clear hb hbw0 k0 k1 k2 e0 e1 e2 HRD HS
    go_wp2
    go_loop [20, 4] (fun vr vn => ∃ r : Nat, r ≤ 6 ∧ vr = .int .i64 r ∧ vn = .int .i64 (upToH l (min r (rk + 1)))) (fun vr _ => 6 - (intOf vr).toNat)
    case atStart => exact ⟨0, by omega, rfl, by simp [upToH]⟩
    case round =>
      obtain ⟨r, hr, rfl, rfl⟩ := hrel
      by_cases hlt : r < 6
      · have hix := fun w => idx6 (sumR Cl3.hi l 0) (sumR Cl3.hi l 1) (sumR Cl3.hi l 2) (sumR Cl3.hi l 3) (sumR Cl3.hi l 4) (sumR Cl3.hi l 5) r hlt (sumR Cl3.hi l) rfl rfl rfl rfl rfl rfl w
        obtain ⟨S, hS⟩ : ∃ S, sumR Cl3.hi l (r : Int) = S := ⟨_, rfl⟩
        have hS0 := sumR_bound (f := Cl3.hi) l r fun x hx => ⟨(HOK.out x hx).2.2.2.2.1, (HOK.out x hx).2.2.2.2.2⟩
        have hU0 := upToH_bd l HOK.out hm (min r (rk + 1))
        have hmin : ((min r (rk + 1) : Nat) : Int) ≤ 6 := by omega
        obtain ⟨U, hU⟩ : ∃ U, upToH l (min r (rk + 1)) = U := ⟨_, rfl⟩
        rw [hS] at hix hS0
        rw [hU] at hU0 ⊢
        have hU1 := hU0.1
        have hU2 : U ≤ 54000000000 := by have := hU0.2; omega
        have hS1 := hS0.1
        have hS2 : S ≤ 9000000000 := by have := hS0.2; omega
        have HU := Lib.hid hU
        have HSS := Lib.hid hS
        clear hS0 hU0 hU hS hmin
        by_cases hle : r ≤ rk
        · have hup : upToH l (min (r + 1) (rk + 1)) = U + S := by
            rw [← HU.out, ← HSS.out, show min (r + 1) (rk + 1) = r + 1 from by omega, show min r (rk + 1) = r from by omega]; rfl
          have HUP := Lib.hid hup
          have hlei : (r : Int) ≤ (rk : Int) := by omega
          clear hup
          go_wp2
          go_round
          case rel => exact ⟨r + 1, by omega, by go_num, by rw [HUP.out]⟩
          case measure => simp [intOf]; omega
        · have hup : upToH l (min (r + 1) (rk + 1)) = U := by
            rw [← HU.out, show min (r + 1) (rk + 1) = min r (rk + 1) from by omega]
          have HUP := Lib.hid hup
          have hlei : ¬ (r : Int) ≤ (rk : Int) := by omega
          clear hup
          go_wp2
          go_round
          case rel => exact ⟨r + 1, by omega, by go_num, by rw [HUP.out]⟩
          case measure => simp [intOf]; omega
      · obtain rfl : r = 6 := by omega
        have hmin : min 6 (rk + 1) = rk + 1 := by omega
        rw [hmin]
        clear hmin
        go_wp2
        go_ret
        exact ⟨by rw [HND.out]; rfl, hB1⟩

/-- What Least answers. -/
def leastR (lo hi : Int) (cs : List Clm) (at_ : Int) : Int × Int :=
  if estErr lo hi cs = 0 then (if inB 0 ((cs.length : Int) - 1) at_ then (match cs[at_.toNat]? with | some c => needI (cs.map c3) (c3 c) | none => 0, 0) else (0, 4)) else (0, estErr lo hi cs)

set_option maxRecDepth 100000 in
set_option maxHeartbeats 2000000 in
theorem least_any (lo hi at_ : Int) (A : Option Addr) (cs : List Clm) (B cap : Nat) (w : World) (hm : cs.length ≤ cap) (hcm : cap ≤ maxLen) (hok : ClmsOk cs) (hR : RdN 4 encClm w B A cs) (hB : B ≤ w.heap.size) :
    Calls Try.prog 37 #[.agg #[.int .i64 lo, .int .i64 hi, .slice A cs.length cap], .int .i64 at_] w fun e w' => e = .returned (.tuple #[iv (leastR lo hi cs at_).1, iv (leastR lo hi cs at_).2]) ∧ Below w.heap.size w w' := by
  have hb0 : Below w.heap.size w _ := belowA (belowR w) (.cells #[.int .i64 lo, .int .i64 hi, .slice A cs.length cap] 42)
  by_cases hE : estErr lo hi cs = 0
  case neg =>
    have hop := enter_no lo hi A cs B cap (w.alloc (.cells #[.int .i64 lo, .int .i64 hi, .slice A cs.length cap] 42)) hm hcm hok (hR.below hb0 hB) (Nat.le_trans hB hb0.size) hE
    have hr : leastR lo hi cs at_ = (0, estErr lo hi cs) := by simp [leastR, hE]
    obtain ⟨E, hEE⟩ : ∃ E, estErr lo hi cs = E := ⟨_, rfl⟩
    rw [hEE] at hE hop hr
    have hne : (E != 0) = true := by simpa using hE
    rw [hr]
    have HOP := Lib.hid hop
    clear hop hEE hE hr
    go_enter Try.func37, Try.ntmps37
    go_wp2_with fail
    refine HOP.out.mono ?_
    rintro e w1 ⟨rfl, hb⟩
    have hB1 := belowT hb0 hb
    clear hb hb0
    go_wp2
    go_ret2
    exact ⟨rfl, belowA hB1 _⟩
  have hest := est_ok hE
  have hop := enter_yes lo hi A cs B cap (w.alloc (.cells #[.int .i64 lo, .int .i64 hi, .slice A cs.length cap] 42)) hm hcm hest.len.2 hok (hR.below hb0 hB) (Nat.le_trans hB hb0.size) hE
  have hok3 := hest.ok3
  have HOP := Lib.hid hop
  have hle8 := hest.len.2
  have hge1 := hest.len.1
  cases hin : inB 0 ((cs.length : Int) - 1) at_
  · have hr : leastR lo hi cs at_ = (0, 4) := by simp [leastR, hE, hin]
    rw [hr]
    clear hop hE hr
    go_enter Try.func37, Try.ntmps37
    go_wp2_with fail
    refine HOP.out.mono ?_
    rintro e w1 ⟨A3, cap3, rfl, hrd, _, _, hb⟩
    have hB1 := belowT hb0 hb
    clear hb hb0
    go_wp2_with fail
    refine (out_one 0 _ at_ _ _ (by go_simp) (by simp)).mono ?_
    rintro e w2 ⟨rfl, hb2⟩
    have hB2 := belowT (belowA (belowA hB1 _) _) hb2
    go_wp2
    go_ret2
    exact ⟨rfl, hB2⟩
  · obtain ⟨ha, hb9⟩ := inB_t hin
    obtain ⟨i, rfl⟩ : ∃ i : Nat, at_ = i := ⟨at_.toNat, by omega⟩
    obtain ⟨c, hx⟩ : ∃ c, cs[i]? = some c := ⟨_, List.getElem?_eq_getElem (by omega)⟩
    have hr : leastR lo hi cs i = (needI (cs.map c3) (c3 c), 0) := by simp [leastR, hE, hin, hx]
    rw [hr]
    obtain ⟨L, hL⟩ : ∃ L, cs.map c3 = L := ⟨_, rfl⟩
    have hLl : L.length = cs.length := by rw [← hL]; simp
    have hx3 : L[i]? = some (c3 c) := by rw [← hL, List.getElem?_map, hx]; rfl
    rw [hL] at hok3 ⊢
    have hnd := fun W A3 cap3 B (hR : RdN 3 encC3 W B A3 L) (hB : B ≤ W.heap.size) => need_any lo hi A A3 cs.length cap cap3 i L (c3 c) B W (by omega) hok3 hR hB hx3
    rw [hLl] at hnd
    have HND := Lib.hid hnd
    have HL := Lib.hid hL
    clear hop hE hr hnd hL hLl hx3 hx
    go_enter Try.func37, Try.ntmps37
    go_wp2_with fail
    refine HOP.out.mono ?_
    rintro e w1 ⟨A3, cap3, rfl, hrd, _, _, hb⟩
    rw [HL.out] at hrd
    have hB1 := belowT hb0 hb
    have HRD := Lib.hid hrd
    clear hb hb0 hrd
    go_wp2_with fail
    refine (out_one 0 _ i _ _ (by go_simp) (by simp)).mono ?_
    rintro e w2 ⟨he, hb2⟩
    rw [hin] at he
    subst he
    have hB2 := belowT (belowA (belowA hB1 _) _) hb2
    have p0 : w2.cell? ⟨w1.heap.size, 0, none⟩ = some (.int .i64 lo) := keepC hb2 (by go_simp)
    have p1 : w2.cell? ⟨w1.heap.size, 1, none⟩ = some (.int .i64 hi) := keepC hb2 (by go_simp)
    have p2 : w2.cell? ⟨w1.heap.size, 2, none⟩ = some (.slice A cs.length cap) := keepC hb2 (by go_simp)
    have p3 : w2.cell? ⟨w1.heap.size, 3, none⟩ = some (.slice A3 cs.length cap3) := keepC hb2 (by go_simp)
    have hrd2 : RdN 3 encC3 w2 w1.heap.size A3 L := HRD.out.below (B' := w1.heap.size) (belowT (belowA (belowA (belowR _) _) _) hb2) (Nat.le_refl _)
    have z2 : w1.heap.size ≤ w2.heap.size := by have := hb2.size; simp only [World.size_alloc] at this; omega
    have HRD2 := Lib.hid hrd2
    clear hb2 hrd2
    go_wp2_with fail
    refine (HND.out _ A3 cap3 _ HRD2.out z2).mono ?_
    rintro e w3 ⟨rfl, hb3⟩
    have hB3 := belowT hB2 hb3
    go_wp2
    go_ret2
    exact ⟨rfl, hB3⟩
end Go.Proofs.Ytblbbhenmhkknaa
