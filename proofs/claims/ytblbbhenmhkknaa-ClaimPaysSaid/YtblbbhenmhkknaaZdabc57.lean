/- The reference: what each claim is paid (paid, F76). The reference: Pays (F29). -/
import Derived.Test.YtblbbhenmhkknaaZ4f974a
import Derived.Test.YtblbbhenmhkknaaZb8d4bc
import Derived.Test.YtblbbhenmhkknaaZ89c80a
namespace Go.Proofs.Ytblbbhenmhkknaa
open Go.RowKit

theorem sumR_none {l : List Cl3} (f : Cl3 → Int) (hok : C3Ok l) : sumR f l 0 = 0 := by
  rw [sumR_congr (g := fun _ => 0) (fun c hc hr => by have := (hok c hc).1; omega), sumR_zero]
theorem upToR_one {l : List Cl3} (hok : C3Ok l) : upToR l 1 = 0 := by
  show upToR l 0 + sumR Cl3.lo l ((0 : Nat) : Int) = 0
  rw [show ((0 : Nat) : Int) = 0 from rfl, sumR_none _ hok]
  rfl
theorem paysTo_one {l : List Cl3} {P : Int} (hok : C3Ok l) : paysTo l P 1 = paysTo l P 0 := by
  have h : ∀ i : Nat, i ≤ l.length → paysMid l P 0 i = paysMid l P 0 0 := by
    intro i
    induction i with
    | zero => intro _; rfl
    | succ i ih =>
      intro hi
      have hx : l[i]? = some l[i] := List.getElem?_eq_getElem (by omega)
      rw [paysMid_skip hx (by have := (hok l[i] (List.getElem_mem _)).1; simp; omega), ih (by omega)]
  have := paysMid_all l P 0
  rw [← this, h l.length (Nat.le_refl _)]
  rfl
theorem sumR_take {f : Cl3 → Int} {l : List Cl3} {r : Int} {i : Nat} {c : Cl3} (h : l[i]? = some c) : sumR f (l.take (i + 1)) r = sumR f (l.take i) r + if c.rank = r then f c else 0 := by
  rw [take_step' h]
  unfold sumR
  simp

def PaidPost (l : List Cl3) (P : Int) (w : World) (e : Ending) (w' : World) : Prop :=
  ∃ A cap, e = .returned (.tuple #[.slice A l.length cap, iv (P - (pays l P).sum)]) ∧ w'.ownsRow w.heap.size 3 1 (.slice A l.length cap) l.length ((pays l P).map iv) ∧ Below w.heap.size w w'

set_option maxRecDepth 100000 in
set_option maxHeartbeats 4000000 in
theorem refPaid_any (A D : Option Addr) (cs : List Clm) (ds : List Int) (l : List Cl3) (B BD cap capD : Nat) (P : Int) (w : World) (hll : l.length = cs.length) (hdl : ds.length = cs.length) (hm : cs.length ≤ 9) (hP0 : 0 ≤ P) (hP : P ≤ 1000000000) (hok : C3Ok l)
    (hat : ∀ (i : Nat) (c : Clm) (d : Int), cs[i]? = some c → ds[i]? = some d → l[i]? = some ⟨c.rank, d, d⟩) (hR : RdN 4 encClm w B A cs) (hB : B ≤ w.heap.size) (hD : Rd1 iv w BD D ds) (hBD : BD ≤ w.heap.size) :
    Calls Try.prog 76 #[.slice A cs.length cap, .slice D ds.length capD, .int .i64 P] w (PaidPost l P w) := by
  obtain ⟨i0, hi, hz0, hz1, hz2⟩ := info_parts Try.info3
  have HAT := Lib.hid hat
  have HR := Lib.hid hR
  have HD := Lib.hid hD
  have hmk := fun W => run_make (P := Try.prog) W 32 3 i0 (.int .i64 0) Try.underlying32 hi hz0 .i64 .i64 (cs.length : Int) (cs.length : Int) (by omega) (Int.le_refl _) (by rw [hz2]; omega) (by omega)
  simp only [hz1, Nat.mul_one, Int.toNat_natCast] at hmk
  have own0 : (w.alloc (.cells (madeCells #[.int .i64 0] cs.length) 3)).ownsRow w.heap.size 3 1 (.slice (some ⟨w.heap.size, 0, none⟩) cs.length cs.length) cs.length ((paysTo l P 1).map iv) := by
    have := World.ownsRow_lit (base := w.heap.size) (e := 3) (size := 1) w (madeCells #[.int .i64 0] cs.length) cs.length (Nat.le_refl _) (by unfold maxLen; omega) (by simp [size_madeCells])
    rw [toList_madeCells_one] at this
    rw [paysTo_one hok, paysTo_zero l P hok, hll]
    exact this
  have HOWN := Lib.hid own0
  clear own0 hat hR hD
  unfold PaidPost
  rw [hll]
  go_enter Try.func76, Try.ntmps76
  go_wp2
  clear hmk
  go_loopw [9, 10, 11] (fun vleft vrest vr wr => ∃ r : Nat, 1 ≤ r ∧ r ≤ 6 ∧ vr = .int .i64 r ∧ vrest = .int .i64 (P - (paysTo l P r).sum) ∧ vleft = .int .i64 (P - upToR l r) ∧ upToR l r ≤ P ∧ Hid (wr.ownsRow w.heap.size 3 1 (.slice (some ⟨w.heap.size, 0, none⟩) cs.length cs.length) cs.length ((paysTo l P r).map iv)) ∧ Below w.heap.size w wr) (fun _ _ vr _ => 6 - (intOf vr).toNat)
  case atStart =>
    refine ⟨1, Nat.le_refl _, by omega, rfl, ?_, ?_, by rw [upToR_one hok]; exact hP0, HOWN, belowA (belowR _) _⟩
    · rw [paysTo_one hok, paysTo_sum0 l P hok]; simp
    · rw [upToR_one hok]; simp
  case round =>
    obtain ⟨r, hr1', hr, rfl, rfl, rfl, hup, HO, hbw⟩ := hrel
    by_cases hlt : r < 6
    · obtain ⟨S, hS⟩ : ∃ S, sumR Cl3.lo l (r : Int) = S := ⟨_, rfl⟩
      obtain ⟨U, hU⟩ : ∃ U, upToR l r = U := ⟨_, rfl⟩
      have hS0 := sumR_bound (f := Cl3.lo) l r fun x hx => ⟨(hok x hx).2.2.1, (hok x hx).2.2.2.1⟩
      have hU0 := upToR_nonneg l hok r
      rw [hS] at hS0
      rw [hU] at hup hU0
      rw [hU]
      have hS1 := hS0.1
      have hS2 : S ≤ 9000000000 := by have := hS0.2; omega
      obtain ⟨M0, hM0e⟩ : ∃ m, (paysTo l P r).sum = m := ⟨_, rfl⟩
      have HM0 := Lib.hid hM0e
      rw [hM0e]
      have HS := Lib.hid hS
      have HU := Lib.hid hU
      have HOK := Lib.hid hok
      clear hS0 hS hU hok hM0e
      go_wp2
      go_loopw [12, 13] (fun vs vi wr => ∃ i : Nat, i ≤ cs.length ∧ vi = .int .i64 i ∧ vs = .int .i64 (sumR Cl3.lo (l.take i) r) ∧ Hid (wr.ownsRow w.heap.size 3 1 (.slice (some ⟨w.heap.size, 0, none⟩) cs.length cs.length) cs.length ((paysTo l P r).map iv)) ∧ Below w.heap.size w wr) (fun _ vi _ => cs.length - (intOf vi).toNat)
      case atStart => exact ⟨0, Nat.zero_le _, rfl, rfl, HO, hbw⟩
      case round =>
        clear HO hbw
        obtain ⟨i, hil, rfl, rfl, HO, hbw⟩ := hrel
        by_cases hli : i < cs.length
        · obtain ⟨c, hc⟩ : ∃ x, cs[i]? = some x := ⟨_, List.getElem?_eq_getElem hli⟩
          obtain ⟨d, hd⟩ : ∃ x, ds[i]? = some x := ⟨_, List.getElem?_eq_getElem (by omega)⟩
          have hx := HAT.out i c d hc hd
          have hst := sumR_take (f := Cl3.lo) (r := (r : Int)) hx
          have hsb := sumR_bound (f := Cl3.lo) (l.take i) (r : Int) fun x hx => ⟨(HOK.out x (List.mem_of_mem_take hx)).2.2.1, (HOK.out x (List.mem_of_mem_take hx)).2.2.2.1⟩
          have hdb := HOK.out _ (List.mem_of_getElem? hx)
          have hd0 : 0 ≤ d := hdb.2.2.1
          have hd9 : d ≤ 1000000000 := hdb.2.2.2.1
          obtain ⟨Q, hQ⟩ : ∃ q, sumR Cl3.lo (l.take i) r = q := ⟨_, rfl⟩
          rw [hQ] at hst hsb ⊢
          have hQ0 := hsb.1
          have hQ9 : Q ≤ 9000000000 := by have h1 := hsb.2; have h2 : (l.take i).length ≤ 9 := by simp; omega
                                          omega
          obtain ⟨b, off, rfl, _, _, e1, _, _⟩ := clmAt (HR.out.below hbw hB) hc
          obtain ⟨bd, od, rfl, _, e4⟩ := (HD.out.below hbw hBD) i d hd
          have hiz : (i : Int) < (cs.length : Int) := by omega
          have hiz2 : (i : Int) < (ds.length : Int) := by omega
          have hi00 : (0 : Int) ≤ (i : Int) := by omega
          obtain ⟨rk, hrk⟩ : ∃ k, c.rank = k := ⟨_, rfl⟩
          rw [hrk] at e1 hst
          simp only at hst
          have HST := Lib.hid hst
          clear hst hQ hsb hdb hx hc hd hrk
          by_cases hq : rk = (r : Int)
          · have hq2 : (rk == (r : Int)) = true := by simp [hq]
            have hst := HST.out
            rw [if_pos hq] at hst
            have HST2 := Lib.hid hst
            clear hst hq HST
            go_wp2
            go_roundw
            case rel => exact ⟨i + 1, by omega, by go_num, by rw [HST2.out], HO, hbw⟩
            case measure => simp [intOf]; omega
          · have hq2 : (rk == (r : Int)) = false := by simp [hq]
            have hst := HST.out
            rw [if_neg hq, Int.add_zero] at hst
            have HST2 := Lib.hid hst
            clear hst hq HST
            go_wp2
            go_roundw
            case rel => exact ⟨i + 1, by omega, by go_num, by rw [HST2.out], HO, hbw⟩
            case measure => simp [intOf]; omega
        · obtain rfl : i = cs.length := by omega
          rw [List.take_of_length_le (by omega), HS.out]
          go_wp2
          go_loopw [10, 14] (fun vrest vi wr => ∃ i : Nat, i ≤ cs.length ∧ vi = .int .i64 i ∧ vrest = .int .i64 (P - (paysMid l P r i).sum) ∧ Hid (wr.ownsRow w.heap.size 3 1 (.slice (some ⟨w.heap.size, 0, none⟩) cs.length cs.length) cs.length ((paysMid l P r i).map iv)) ∧ Below w.heap.size w wr) (fun _ vi _ => cs.length - (intOf vi).toNat)
          case atStart => exact ⟨0, Nat.zero_le _, rfl, by rw [← HM0.out]; rfl, HO, hbw⟩
          case round =>
            clear HO hbw
            obtain ⟨i, hil, rfl, rfl, HO, hbw⟩ := hrel
            have hsb := paysMid_sum (P := P) (r := r) (i := i) HOK.out (by omega)
            obtain ⟨M, hM⟩ : ∃ M, (paysMid l P r i).sum = M := ⟨_, rfl⟩
            rw [hM] at hsb ⊢
            have hM0 := hsb.1
            have hM9 := hsb.2
            have HM := Lib.hid hM
            clear hsb hM
            by_cases hli : i < cs.length
            · obtain ⟨c, hc⟩ : ∃ x, cs[i]? = some x := ⟨_, List.getElem?_eq_getElem hli⟩
              obtain ⟨d, hd⟩ : ∃ x, ds[i]? = some x := ⟨_, List.getElem?_eq_getElem (by omega)⟩
              have hx := HAT.out i c d hc hd
              have hdb := HOK.out _ (List.mem_of_getElem? hx)
              have hd0 : 0 ≤ d := hdb.2.2.1
              have hd9 : d ≤ 1000000000 := hdb.2.2.2.1
              obtain ⟨b, off, rfl, hbB, _, e1, _, _⟩ := clmAt (HR.out.below hbw hB) hc
              obtain ⟨bd, od, rfl, hbD, e4⟩ := (HD.out.below hbw hBD) i d hd
              have hiz : (i : Int) < (cs.length : Int) := by omega
              have hiz2 : (i : Int) < (ds.length : Int) := by omega
              have hi00 : (0 : Int) ≤ (i : Int) := by omega
              by_cases hrk : c.rank = (r : Int)
              · have hset := paysMid_set (P := P) hx hrk
                have hat := paysMid_at (P := P) hx hrk
                have hsum := sum_set (x := payAt l P ⟨c.rank, d, d⟩) hat
                rw [← hset, HM.out] at hsum
                have hpb := payAt_bound (P := P) HOK.out (List.mem_of_getElem? hx)
                have hpay : payAt l P ⟨c.rank, d, d⟩ = if U + S ≤ P then d else (P - U) * d / S := by
                  unfold payAt
                  simp only [hrk, Int.toNat_natCast, HU.out, HS.out, if_pos hup]
                have hge := sumR_ge l (fun x hx => (HOK.out x hx).2.2.1) _ (List.mem_of_getElem? hx)
                simp only [hrk] at hge
                rw [HS.out] at hge
                obtain ⟨p, hp⟩ : ∃ p, payAt l P ⟨c.rank, d, d⟩ = p := ⟨_, rfl⟩
                rw [hp] at hset hsum hpb hpay
                simp only at hpb
                rw [hrk] at e1
                have hcell := HO.out.cellAt i (by omega)
                rw [List.getElem?_map, hat] at hcell
                simp only [Option.map_some] at hcell
                have hfz := HO.out.frozenAt i
                have hst := (HO.out.stored i (iv p)).1
                rw [← List.map_set, ← hset] at hst
                have HST := Lib.hid hst
                have HSUM := Lib.hid hsum
                have hp0 := hpb.1
                have hp9 : p ≤ 1000000000 := by have := hpb.2; omega
                have hown : w.heap.size < wr.heap.size := (HO.out.lt _ rfl).2
                have hbn1 : b ≠ w.heap.size := by omega
                have hbn2 : bd ≠ w.heap.size := by omega
                clear hst hset hat hsum hpb hp hx HO hdb hc hd hrk
                by_cases hle : U + S ≤ P
                · rw [if_pos hle] at hpay
                  subst hpay
                  have hge2 : S ≤ P - U := by omega
                  go_wp2
                  go_roundw
                  case rel => exact ⟨i + 1, by omega, by go_num, by rw [HSUM.out]; exact congrArg (Value.int .i64) (by omega), HST, belowS hbw (by simp) _⟩
                  case measure => simp [intOf]; omega
                · rw [if_neg hle] at hpay
                  have hlt2 : P - U < S := by omega
                  have hge2 : ¬ (S ≤ P - U) := by omega
                  have hSn : (S == 0) = false := beq_eq_false_iff_ne.2 (by omega)
                  have hS0 : S ≠ 0 := by omega
                  have hm1 : 0 ≤ (P - U) * d := Int.mul_nonneg (by omega) hd0
                  have hm2 : (P - U) * d ≤ 1000000000000000000 := by
                    have h1 : (P - U) * d ≤ 1000000000 * d := Int.mul_le_mul_of_nonneg_right (by omega) hd0
                    omega
                  obtain ⟨m, hmm⟩ : ∃ m, (P - U) * d = m := ⟨_, rfl⟩
                  rw [hmm] at hm1 hm2 hpay
                  have HPAY := Lib.hid hpay
                  clear hpay
                  go_wp2
                  rw [← HPAY.out]
                  try (have hw : wrap64 (P - M - p) = P - M - p := by unfold wrap64; omega
                       rw [hw])
                  go_roundw
                  case rel => exact ⟨i + 1, by omega, by go_num, by rw [HSUM.out]; exact congrArg (Value.int .i64) (by omega), HST, belowS hbw (by simp) _⟩
                  case measure => simp [intOf]; omega
              · have hsk := paysMid_skip (P := P) hx hrk
                obtain ⟨rk, hrk2⟩ : ∃ k, c.rank = k := ⟨_, rfl⟩
                rw [hrk2] at e1 hrk
                have hne : (rk == (r : Int)) = false := beq_eq_false_iff_ne.2 hrk
                have hne2 : (rk != (r : Int)) = true := by simp [hrk]
                have HSK := Lib.hid hsk
                clear hsk hx hdb hc hd hrk2
                go_wp2
                go_roundw
                case rel => exact ⟨i + 1, by omega, by go_num, by rw [HSK.out, HM.out], by rw [HSK.out]; exact HO, hbw⟩
                case measure => simp [intOf]; omega
            · obtain rfl : i = cs.length := by omega
              have hmid := paysMid_all l P r
              rw [hll] at hmid
              by_cases hlt2 : P - U < S
              · have hout := paysTo_out (r := r) (P := P) HOK.out (by simp only [upToR]; rw [HU.out, HS.out]; omega)
                rw [hout] at hmid
                rw [hmid] at HM HO
                have HM2 := Lib.hid HM.out
                clear hmid hout HM
                go_wp2
                refine bodyPost_ret (results_tmp2 rfl _ _ _) rfl ?_
                exact ⟨_, _, by rw [HM2.out]; rfl, HO.out, hbw⟩
              · have hup2 : upToR l (r + 1) = U + S := by simp only [upToR]; rw [HU.out, HS.out]
                have HMID := Lib.hid hmid
                have HUP := Lib.hid hup2
                clear hmid hup2
                go_wp2
                go_roundw
                case rel => exact ⟨r + 1, by omega, by omega, by go_num, by rw [← HMID.out, HM.out], by rw [HUP.out]; exact congrArg (Value.int .i64) (by omega), by rw [HUP.out]; omega, by rw [← HMID.out]; exact HO, hbw⟩
                case measure => simp [intOf]; omega
    · obtain rfl : r = 6 := by omega
      rw [paysTo_all l P hok]
      rw [paysTo_all l P hok] at HO
      go_wp2
      refine bodyPost_ret (results_tmp2 rfl _ _ _) rfl ?_
      exact ⟨_, _, rfl, HO.out, hbw⟩
end Go.Proofs.Ytblbbhenmhkknaa

namespace Go.Proofs.Ytblbbhenmhkknaa
open Go.RowKit

theorem getD_at' {ds : List Int} {i : Nat} {d : Int} (h : ds[i]? = some d) : ds.getD i 0 = d := by rw [List.getD_eq_getElem?_getD, h]; rfl

set_option maxRecDepth 100000 in
set_option maxHeartbeats 4000000 in
theorem refPays_no (lo hi : Int) (A D : Option Addr) (cs : List Clm) (B cap capD : Nat) (P : Int) (ds : List Int) (w : World) (hm : cs.length ≤ cap) (hcm : cap ≤ maxLen) (hok : ClmsOk cs) (hR : RdN 4 encClm w B A cs) (hB : B ≤ w.heap.size) (hD : Rd1 iv w B D ds) (hdm : ds.length ≤ maxLen) (hE : truthE lo hi cs P ds ≠ 0) :
    Calls Try.prog 29 #[.agg #[.int .i64 lo, .int .i64 hi, .slice A cs.length cap], .agg #[.int .i64 P, .slice D ds.length capD]] w fun e w' => e = .returned (.tuple #[.slice none 0 0, iv 0, iv (truthE lo hi cs P ds)]) ∧ Below w.heap.size w w' := by
  have hb0 : Below w.heap.size w _ := belowA (belowA (belowR w) (.cells #[.int .i64 lo, .int .i64 hi, .slice A cs.length cap] 42)) (.cells #[.int .i64 P, .slice D ds.length capD] 44)
  have hop := refTruth_any lo hi A D cs B cap capD P ds ((w.alloc (.cells #[.int .i64 lo, .int .i64 hi, .slice A cs.length cap] 42)).alloc (.cells #[.int .i64 P, .slice D ds.length capD] 44)) hm hcm hok (hR.below hb0 hB) (Nat.le_trans hB hb0.size) (hD.below hb0 hB) hdm
  obtain ⟨E, hEE⟩ : ∃ E, truthE lo hi cs P ds = E := ⟨_, rfl⟩
  rw [hEE] at hE hop ⊢
  have hne : (E != 0) = true := by simpa using hE
  have HOP := Lib.hid hop
  clear hop hEE hE
  go_enter Try.func29, Try.ntmps29
  go_wp2_with fail
  refine HOP.out.mono ?_
  rintro e w1 ⟨rfl, hb⟩
  have hB1 := belowT hb0 hb
  clear hb hb0
  go_wp2
  go_ret3
  exact ⟨rfl, hB1⟩

set_option maxRecDepth 100000 in
set_option maxHeartbeats 4000000 in
theorem refPays_yes (lo hi : Int) (A D : Option Addr) (cs : List Clm) (B cap capD : Nat) (P : Int) (ds : List Int) (w : World) (hm : cs.length ≤ cap) (hcm : cap ≤ maxLen) (hok : ClmsOk cs) (hR : RdN 4 encClm w B A cs) (hB : B ≤ w.heap.size) (hD : Rd1 iv w B D ds) (hE : truthE lo hi cs P ds = 0) :
    Calls Try.prog 29 #[.agg #[.int .i64 lo, .int .i64 hi, .slice A cs.length cap], .agg #[.int .i64 P, .slice D ds.length capD]] w (PaysYes cs P ds w) := by
  have hto := (truthE_ok hE).1
  have hest := est_ok hto.est
  have hle8 := hest.len.2
  have hsp := hest.span
  have hpro := hto.pro
  obtain ⟨W1, hW1⟩ : ∃ W1, (w.alloc (.cells #[.int .i64 lo, .int .i64 hi, .slice A cs.length cap] 42)).alloc (.cells #[.int .i64 P, .slice D ds.length capD] 44) = W1 := ⟨_, rfl⟩
  have hb0 : Below w.heap.size w W1 := by rw [← hW1]; exact belowA (belowA (belowR _) _) _
  have p0 : W1.cell? ⟨w.heap.size, 0, none⟩ = some (.int .i64 lo) := by rw [← hW1]; clear hW1; go_simp
  have p1 : W1.cell? ⟨w.heap.size, 1, none⟩ = some (.int .i64 hi) := by rw [← hW1]; clear hW1; go_simp
  have p2 : W1.cell? ⟨w.heap.size, 2, none⟩ = some (.slice A cs.length cap) := by rw [← hW1]; clear hW1; go_simp
  have q0 : W1.cell? ⟨w.heap.size + 1, 0, none⟩ = some (.int .i64 P) := by rw [← hW1]; clear hW1; go_simp
  have q1 : W1.cell? ⟨w.heap.size + 1, 1, none⟩ = some (.slice D ds.length capD) := by rw [← hW1]; clear hW1; go_simp
  have HB0 := Lib.hid hb0
  have hz1 : w.heap.size + 1 < W1.heap.size := lt_of_cell q0
  have hop := refTruth_any lo hi A D cs B cap capD P ds W1 hm hcm hok (hR.below hb0 hB) (by omega) (hD.below hb0 hB) (by rw [hto.len]; unfold maxLen; omega)
  rw [hE] at hop
  have hll : (jl cs ds).length = cs.length := jl_len cs ds
  have hpd := fun W (hR : RdN 4 encClm W B A cs) (hD : Rd1 iv W B D ds) (hB : B ≤ W.heap.size) => refPaid_any A D cs ds (jl cs ds) B B cap capD P W hll hto.len (by omega) (by omega) (by omega) hto.ok3 (fun i c d hc hd => by rw [jl_at hc, getD_at' hd]) hR hB hD hB
  unfold PaidPost at hpd
  rw [hll] at hpd
  have HOP := Lib.hid hop
  have HPD := Lib.hid hpd
  have HR1 := Lib.hid (hR.below hb0 hB)
  have HD1 := Lib.hid (hD.below hb0 hB)
  unfold PaysYes
  obtain ⟨PL, hPL⟩ : ∃ l, pays (jl cs ds) P = l := ⟨_, rfl⟩
  rw [hPL]
  have HPL := Lib.hid hPL
  clear hop hpd hto hest hsp hpro hb0 hR hD hE hPL hll
  go_enter Try.func29, Try.ntmps29
  go_wp2_with fail
  refine HOP.out.mono ?_
  rintro e w1 ⟨rfl, hb1⟩
  have p2 := keepC hb1 p2
  have q0 := keepC hb1 q0
  have q1 := keepC hb1 q1
  have hz2 := hb1.size
  have HB1 := Lib.hid hb1
  clear hb1 p0 p1 HOP hW1
  go_wp2_with fail
  refine (HPD.out _ (HR1.out.below HB1.out (by omega)) (HD1.out.below HB1.out (by omega)) (by omega)).mono ?_
  rintro e w2 ⟨A2, cap2, rfl, hown2, hb2⟩
  rw [HPL.out] at hown2 ⊢
  have hB2 := belowT HB0.out (belowT HB1.out hb2)
  have hO2 := ownsRow_base2 hown2 (show w.heap.size ≤ w1.heap.size by omega)
  clear hown2 hb2 p2 q0 q1
  go_wp2
  go_ret3
  exact ⟨_, _, rfl, hO2, hB2⟩
end Go.Proofs.Ytblbbhenmhkknaa
