/- claim.pay. -/
import Derived.LoopTactic
import Derived.WalkMore
import Derived.ScopeJumps
import Derived.Test.YtblbbhenmhkknaaW21
import Derived.Test.YtblbbhenmhkknaaPay
namespace Go.Proofs.Ytblbbhenmhkknaa
open Go.RowKit

theorem idx6 (a0 a1 a2 a3 a4 a5 : Int) (r : Nat) (hr : r < 6) (f : Int → Int) (h0 : f 0 = a0) (h1 : f 1 = a1) (h2 : f 2 = a2) (h3 : f 3 = a3) (h4 : f 4 = a4) (h5 : f 5 = a5) (w : World) :
    (Instr.index 154 (.agg #[.int .i64 a0, .int .i64 a1, .int .i64 a2, .int .i64 a3, .int .i64 a4, .int .i64 a5]) (.int .i64 r)).run Try.prog w = .ok (.int .i64 (f r)) w := by
  subst h0 h1 h2 h3 h4 h5
  match r, hr with
  | 0, _ => simp [Instr.index, run_underlying Try.underlying154, asIntOf, go_sem]
  | 1, _ => simp [Instr.index, run_underlying Try.underlying154, asIntOf, go_sem]
  | 2, _ => simp [Instr.index, run_underlying Try.underlying154, asIntOf, go_sem]
  | 3, _ => simp [Instr.index, run_underlying Try.underlying154, asIntOf, go_sem]
  | 4, _ => simp [Instr.index, run_underlying Try.underlying154, asIntOf, go_sem]
  | 5, _ => simp [Instr.index, run_underlying Try.underlying154, asIntOf, go_sem]

def PayPost (l : List Cl3) (P : Int) (w : World) (e : Ending) (w' : World) : Prop :=
  ∃ A cap, e = .returned (.tuple #[.slice A l.length cap, iv (P - (pays l P).sum)]) ∧ w'.ownsRow w.heap.size 3 1 (.slice A l.length cap) l.length ((pays l P).map iv) ∧ Below w.heap.size w w'

set_option maxRecDepth 100000 in
set_option maxHeartbeats 4000000 in
theorem pay_any (A : Option Addr) (l : List Cl3) (B cap : Nat) (P : Int) (w : World) (hm : l.length ≤ 9) (hP0 : 0 ≤ P) (hP : P ≤ 1000000000) (hok : C3Ok l) (hR : RdN 3 encC3 w B A l) (hB : B ≤ w.heap.size) :
    Calls Try.prog 74 #[.slice A l.length cap, .int .i64 P] w (PayPost l P w) := by
  obtain ⟨i0, hi, hz0, hz1, hz2⟩ := info_parts Try.info3
  go_enter Try.func74, Try.ntmps74
  go_wp2
  go_step3
  go_wp2_with fail
  refine (summed_lo A l B cap _ hm hok hR hB).mono ?_
  rintro e w1 ⟨rfl, hb⟩
  unfold sums
  have hmk := fun W => run_make (P := Try.prog) W 32 3 i0 (.int .i64 0) Try.underlying32 hi hz0 .i64 .i64 (l.length : Int) (l.length : Int) (by omega) (Int.le_refl _) (by rw [hz2]; omega) (by omega)
  simp only [hz1, Nat.mul_one, Int.toNat_natCast] at hmk
  go_wp2
  clear hmk
  obtain ⟨W0, hW0⟩ : ∃ W0, (w1.alloc (.cells #[.int .i64 (sumR Cl3.lo l 0), .int .i64 (sumR Cl3.lo l 1), .int .i64 (sumR Cl3.lo l 2), .int .i64 (sumR Cl3.lo l 3), .int .i64 (sumR Cl3.lo l 4), .int .i64 (sumR Cl3.lo l 5)] 154)).alloc (.cells (madeCells #[.int .i64 0] l.length) 3) = W0 := ⟨_, rfl⟩
  have b0 : W0.cell? ⟨w1.heap.size, 0, none⟩ = some (.int .i64 (sumR Cl3.lo l 0)) := by rw [← hW0]; clear hW0; go_simp
  have b1 : W0.cell? ⟨w1.heap.size, 1, none⟩ = some (.int .i64 (sumR Cl3.lo l 1)) := by rw [← hW0]; clear hW0; go_simp
  have b2 : W0.cell? ⟨w1.heap.size, 2, none⟩ = some (.int .i64 (sumR Cl3.lo l 2)) := by rw [← hW0]; clear hW0; go_simp
  have b3 : W0.cell? ⟨w1.heap.size, 3, none⟩ = some (.int .i64 (sumR Cl3.lo l 3)) := by rw [← hW0]; clear hW0; go_simp
  have b4 : W0.cell? ⟨w1.heap.size, 4, none⟩ = some (.int .i64 (sumR Cl3.lo l 4)) := by rw [← hW0]; clear hW0; go_simp
  have b5 : W0.cell? ⟨w1.heap.size, 5, none⟩ = some (.int .i64 (sumR Cl3.lo l 5)) := by rw [← hW0]; clear hW0; go_simp
  have hB0 : Below w.heap.size w W0 := by rw [← hW0]; exact belowA (belowA (belowT (belowR _) hb) _) _
  have own0 : W0.ownsRow w.heap.size 3 1 (.slice (some ⟨w1.heap.size + 1, 0, none⟩) l.length l.length) l.length ((paysTo l P 0).map iv) := by
    rw [← hW0]
    have := World.ownsRow_lit (base := w.heap.size) (e := 3) (size := 1) (w1.alloc (.cells #[.int .i64 (sumR Cl3.lo l 0), .int .i64 (sumR Cl3.lo l 1), .int .i64 (sumR Cl3.lo l 2), .int .i64 (sumR Cl3.lo l 3), .int .i64 (sumR Cl3.lo l 4), .int .i64 (sumR Cl3.lo l 5)] 154)) (madeCells #[.int .i64 0] l.length) l.length (by have := hb.size; simp; omega) (by unfold maxLen; omega) (by simp [size_madeCells])
    simp only [World.size_alloc] at this
    rw [toList_madeCells_one] at this
    rw [paysTo_zero l P hok]
    exact this
  rw [hW0]
  clear hW0
  have HOWN := Lib.hid own0
  clear own0
  go_step3
  go_wp2
  clear b0 b1 b2 b3 b4 b5
  go_loopw [20, 5, 7] (fun vr vrest vleft wr => ∃ r : Nat, r ≤ 6 ∧ vr = .int .i64 r ∧ vrest = .int .i64 (P - (paysTo l P r).sum) ∧ vleft = .int .i64 (P - upToR l r) ∧ upToR l r ≤ P ∧ Hid (wr.ownsRow w.heap.size 3 1 (.slice (some ⟨w1.heap.size + 1, 0, none⟩) l.length l.length) l.length ((paysTo l P r).map iv)) ∧ Below w.heap.size w wr) (fun vr _ _ _ => 6 - (intOf vr).toNat)
  case atStart =>
    refine ⟨0, by omega, rfl, ?_, ?_, hP0, HOWN, hB0⟩
    · rw [paysTo_sum0 l P hok]; simp
    · simp [upToR]
  case round =>
    obtain ⟨r, hr, rfl, rfl, rfl, hup, HO, hbw⟩ := hrel
    by_cases hlt : r < 6
    · have hix := fun w => idx6 (sumR Cl3.lo l 0) (sumR Cl3.lo l 1) (sumR Cl3.lo l 2) (sumR Cl3.lo l 3) (sumR Cl3.lo l 4) (sumR Cl3.lo l 5) r hlt (sumR Cl3.lo l) rfl rfl rfl rfl rfl rfl w
      obtain ⟨S, hS⟩ : ∃ S, sumR Cl3.lo l (r : Int) = S := ⟨_, rfl⟩
      obtain ⟨U, hU⟩ : ∃ U, upToR l r = U := ⟨_, rfl⟩
      have hS0 := sumR_bound (f := Cl3.lo) l r fun x hx => ⟨(hok x hx).2.2.1, (hok x hx).2.2.2.1⟩
      have hU0 := upToR_nonneg l hok r
      rw [hS] at hix hS0
      rw [hU] at hup hU0
      rw [hU]
      have hS1 := hS0.1
      have hS2 : S ≤ 9000000000 := by have := hS0.2; omega
      have HS := Lib.hid hS
      have HU := Lib.hid hU
      have HOK := Lib.hid hok
      clear hS0 hS hU hok
      go_wp2
      clear hix
      go_loopw [26, 5] (fun vi vrest wr => ∃ i : Nat, i ≤ l.length ∧ vi = .int .i64 i ∧ vrest = .int .i64 (P - (paysMid l P r i).sum) ∧ Hid (wr.ownsRow w.heap.size 3 1 (.slice (some ⟨w1.heap.size + 1, 0, none⟩) l.length l.length) l.length ((paysMid l P r i).map iv)) ∧ Below w.heap.size w wr) (fun vi _ _ => l.length - (intOf vi).toNat)
      case atStart => exact ⟨0, Nat.zero_le _, rfl, rfl, HO, hbw⟩
      case round =>
        clear HO hbw
        obtain ⟨i, hil, rfl, rfl, HO, hbw⟩ := hrel
        have hsb := paysMid_sum (P := P) (r := r) (i := i) HOK.out hm
        obtain ⟨M, hM⟩ : ∃ M, (paysMid l P r i).sum = M := ⟨_, rfl⟩
        rw [hM] at hsb ⊢
        have hM0 := hsb.1
        have hM9 := hsb.2
        have HM := Lib.hid hM
        clear hsb hM
        by_cases hli : i < l.length
        · obtain ⟨c, hx⟩ : ∃ x, l[i]? = some x := ⟨_, List.getElem?_eq_getElem hli⟩
          obtain ⟨b, off, rfl, hbB, e0, e1, e2⟩ := c3At (hR.below hbw hB) hx
          obtain ⟨hr1, hr5, hl0, hl9, hh0, hh9⟩ := HOK.out c (List.mem_of_getElem? hx)
          have hz := hbw.size
          by_cases hrk : c.rank = (r : Int)
          · have hset := paysMid_set (P := P) hx hrk
            have hat := paysMid_at (P := P) hx hrk
            have hsum := sum_set (x := payAt l P c) hat
            rw [← hset, HM.out] at hsum
            have hpb := payAt_bound (P := P) HOK.out (List.mem_of_getElem? hx)
            have hpay : payAt l P c = if U + S ≤ P then c.lo else (P - U) * c.lo / S := by
              unfold payAt
              rw [hrk, Int.toNat_natCast, HU.out, HS.out, if_pos hup]
            have hge := sumR_ge l (fun x hx => (HOK.out x hx).2.2.1) c (List.mem_of_getElem? hx)
            rw [hrk, HS.out] at hge
            obtain ⟨p, hp⟩ : ∃ p, payAt l P c = p := ⟨_, rfl⟩
            rw [hp] at hset hsum hpb hpay
            obtain ⟨rank, lo, hi2⟩ := c
            simp only at hrk hl0 hl9 hh0 hh9 hpb hpay e0 e1 e2 hge
            subst hrk
            have hcell := HO.out.cellAt i (by omega)
            rw [List.getElem?_map, hat] at hcell
            simp only [Option.map_some] at hcell
            have hfz := HO.out.frozenAt i
            have hst := (HO.out.stored i (iv p)).1
            rw [← List.map_set, ← hset] at hst
            have HST := Lib.hid hst
            have HSUM := Lib.hid hsum
            have hp0 := hpb.1
            have hp9 : p ≤ 1000000000 := by have := hpb.2; omega
            have hown : w1.heap.size + 1 < wr.heap.size := (HO.out.lt _ rfl).2
            clear hst hset hat hsum hpb hp hx HO
            by_cases hle : U + S ≤ P
            · rw [if_pos hle] at hpay
              subst hpay
              have hge2 : S ≤ P - U := by omega
              go_wp2
              go_roundw
              case rel => exact ⟨i + 1, by omega, by go_num, by rw [HSUM.out]; exact congrArg (Value.int .i64) (by omega), HST.out.alloc _, belowA (belowS hbw (by simp; have := hb.size; omega) _) _⟩
              case measure => simp [intOf]; omega
            · rw [if_neg hle] at hpay
              have hlt2 : P - U < S := by omega
              have hge2 : ¬ (S ≤ P - U) := by omega
              have hSn : (S == 0) = false := beq_eq_false_iff_ne.2 (by omega)
              have hS0 : S ≠ 0 := by omega
              have hm1 : 0 ≤ (P - U) * lo := Int.mul_nonneg (by omega) hl0
              have hm2 : (P - U) * lo ≤ 1000000000000000000 := by
                have h1 : (P - U) * lo ≤ 1000000000 * lo := Int.mul_le_mul_of_nonneg_right (by omega) hl0
                omega
              obtain ⟨m, hmm⟩ : ∃ m, (P - U) * lo = m := ⟨_, rfl⟩
              rw [hmm] at hm1 hm2 hpay
              have HPAY := Lib.hid hpay
              clear hpay
              go_wp2
              rw [← HPAY.out]
              have hw : wrap64 (P - M - p) = P - M - p := by unfold wrap64; omega
              rw [hw]
              go_roundw
              case rel => exact ⟨i + 1, by omega, by go_num, by rw [HSUM.out]; exact congrArg (Value.int .i64) (by omega), HST.out.alloc _, belowA (belowS hbw (by simp; have := hb.size; omega) _) _⟩
              case measure => simp [intOf]; omega
          · have hsk := paysMid_skip (P := P) hx hrk
            obtain ⟨rank, lo, hi2⟩ := c
            simp only at hrk hl0 hl9 hh0 hh9 e0 e1 e2
            have hne : (rank == (r : Int)) = false := beq_eq_false_iff_ne.2 hrk
            have HSK := Lib.hid hsk
            clear hsk hx
            go_wp2
            go_roundw
            case rel => exact ⟨i + 1, by omega, by go_num, by rw [HSK.out, HM.out], by rw [HSK.out]; exact HO.out.alloc _, belowA hbw _⟩
            case measure => simp [intOf]; omega
        · obtain rfl : i = l.length := by omega
          by_cases hlt2 : P - U < S
          · have hout := paysTo_out (r := r) (P := P) HOK.out (by simp only [upToR]; rw [HU.out, HS.out]; omega)
            have hmid := paysMid_all l P r
            rw [hout] at hmid
            rw [hmid] at HM HO
            have HM2 := Lib.hid HM.out
            clear hmid hout HM
            go_wp2
            rw [Exit.noGoto_ret]
            refine bodyPost_ret (results_tmp2 rfl _ _ _) rfl ?_
            exact ⟨_, _, by rw [HM2.out]; rfl, HO.out, hbw⟩
          · have hmid := paysMid_all l P r
            have hup2 : upToR l (r + 1) = U + S := by simp only [upToR]; rw [HU.out, HS.out]
            have HMID := Lib.hid hmid
            have HUP := Lib.hid hup2
            clear hmid hup2
            go_wp2
            go_roundw
            case rel => exact ⟨r + 1, by omega, by go_num, by rw [← HMID.out, HM.out], by rw [HUP.out]; exact congrArg (Value.int .i64) (by omega), by rw [HUP.out]; omega, by rw [← HMID.out]; exact HO, hbw⟩
            case measure => simp [intOf]; omega
    · obtain rfl : r = 6 := by omega
      rw [paysTo_all l P hok]
      rw [paysTo_all l P hok] at HO
      go_wp2
      rw [Exit.noGoto_ret]
      refine bodyPost_ret (results_tmp2 rfl _ _ _) rfl ?_
      exact ⟨_, _, rfl, HO.out, hbw⟩
end Go.Proofs.Ytblbbhenmhkknaa
