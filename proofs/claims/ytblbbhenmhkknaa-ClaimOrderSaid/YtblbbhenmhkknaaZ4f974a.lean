/- claim.pay. claim.truth. What a valid estate is. No program is walked here. (claim.estate).need and claim.Least. -/
import Derived.LoopTactic
import Derived.WalkMore
import Derived.ScopeJumps
import Derived.Test.YtblbbhenmhkknaaZ79a1bb
import Derived.Test.YtblbbhenmhkknaaYPay
namespace Go.Proofs.Ytblbbhenmhkknaa
open Go.RowKit

theorem idx6 (a0 a1 a2 a3 a4 a5 : Int) (r : Nat) (hr : r < 6) (f : Int → Int) (h0 : f 0 = a0) (h1 : f 1 = a1) (h2 : f 2 = a2) (h3 : f 3 = a3) (h4 : f 4 = a4) (h5 : f 5 = a5) (w : World) :
    (Instr.index 154 (.agg #[.int .i64 a0, .int .i64 a1, .int .i64 a2, .int .i64 a3, .int .i64 a4, .int .i64 a5]) (.int .i64 r)).run Try.prog w = .ok (.int .i64 (f r)) w := by
  subst h0 h1 h2 h3 h4 h5
  match r, hr with
  | 0, _ => simp [Instr.index, run_underlying Try.underlying154, asIntOf, go_sem]
  | 1, _ => simp [Instr.index, run_underlying Try.underlying154, asIntOf, go_sem]
  | 2, _ => simp [Instr.index, run_underlying Try.underlying154, asIntOf, go_sem]
  | 3, _ => simp [Instr.index, run_underlying Try.underlying154, asIntOf, go_sem]
  | 4, _ => simp [Instr.index, run_underlying Try.underlying154, asIntOf, go_sem]
  | 5, _ => simp [Instr.index, run_underlying Try.underlying154, asIntOf, go_sem]

def PayPost (l : List Cl3) (P : Int) (w : World) (e : Ending) (w' : World) : Prop :=
  ∃ A cap, e = .returned (.tuple #[.slice A l.length cap, iv (P - (pays l P).sum)]) ∧ w'.ownsRow w.heap.size 3 1 (.slice A l.length cap) l.length ((pays l P).map iv) ∧ Below w.heap.size w w'

set_option maxRecDepth 100000 in
set_option maxHeartbeats 4000000 in
theorem pay_any (A : Option Addr) (l : List Cl3) (B cap : Nat) (P : Int) (w : World) (hm : l.length ≤ 9) (hP0 : 0 ≤ P) (hP : P ≤ 1000000000) (hok : C3Ok l) (hR : RdN 3 encC3 w B A l) (hB : B ≤ w.heap.size) :
    Calls Try.prog 74 #[.slice A l.length cap, .int .i64 P] w (PayPost l P w) := by
  obtain ⟨i0, hi, hz0, hz1, hz2⟩ := info_parts Try.info3
  go_enter Try.func74, Try.ntmps74
  go_wp2
  go_step3
  go_wp2_with fail
  refine (summed_lo A l B cap _ hm hok hR hB).mono ?_
  rintro e w1 ⟨rfl, hb⟩
  unfold sums
  have hmk := fun W => run_make (P := Try.prog) W 32 3 i0 (.int .i64 0) Try.underlying32 hi hz0 .i64 .i64 (l.length : Int) (l.length : Int) (by omega) (Int.le_refl _) (by rw [hz2]; omega) (by omega)
  simp only [hz1, Nat.mul_one, Int.toNat_natCast] at hmk
  go_wp2
  clear hmk
  obtain ⟨W0, hW0⟩ : ∃ W0, (w1.alloc (.cells #[.int .i64 (sumR Cl3.lo l 0), .int .i64 (sumR Cl3.lo l 1), .int .i64 (sumR Cl3.lo l 2), .int .i64 (sumR Cl3.lo l 3), .int .i64 (sumR Cl3.lo l 4), .int .i64 (sumR Cl3.lo l 5)] 154)).alloc (.cells (madeCells #[.int .i64 0] l.length) 3) = W0 := ⟨_, rfl⟩
  have b0 : W0.cell? ⟨w1.heap.size, 0, none⟩ = some (.int .i64 (sumR Cl3.lo l 0)) := by rw [← hW0]; clear hW0; go_simp
  have b1 : W0.cell? ⟨w1.heap.size, 1, none⟩ = some (.int .i64 (sumR Cl3.lo l 1)) := by rw [← hW0]; clear hW0; go_simp
  have b2 : W0.cell? ⟨w1.heap.size, 2, none⟩ = some (.int .i64 (sumR Cl3.lo l 2)) := by rw [← hW0]; clear hW0; go_simp
  have b3 : W0.cell? ⟨w1.heap.size, 3, none⟩ = some (.int .i64 (sumR Cl3.lo l 3)) := by rw [← hW0]; clear hW0; go_simp
  have b4 : W0.cell? ⟨w1.heap.size, 4, none⟩ = some (.int .i64 (sumR Cl3.lo l 4)) := by rw [← hW0]; clear hW0; go_simp
  have b5 : W0.cell? ⟨w1.heap.size, 5, none⟩ = some (.int .i64 (sumR Cl3.lo l 5)) := by rw [← hW0]; clear hW0; go_simp
  have hB0 : Below w.heap.size w W0 := by rw [← hW0]; exact belowA (belowA (belowT (belowR _) hb) _) _
  have own0 : W0.ownsRow w.heap.size 3 1 (.slice (some ⟨w1.heap.size + 1, 0, none⟩) l.length l.length) l.length ((paysTo l P 0).map iv) := by
    rw [← hW0]
    have := World.ownsRow_lit (base := w.heap.size) (e := 3) (size := 1) (w1.alloc (.cells #[.int .i64 (sumR Cl3.lo l 0), .int .i64 (sumR Cl3.lo l 1), .int .i64 (sumR Cl3.lo l 2), .int .i64 (sumR Cl3.lo l 3), .int .i64 (sumR Cl3.lo l 4), .int .i64 (sumR Cl3.lo l 5)] 154)) (madeCells #[.int .i64 0] l.length) l.length (by have := hb.size; simp; omega) (by unfold maxLen; omega) (by simp [size_madeCells])
    simp only [World.size_alloc] at this
    rw [toList_madeCells_one] at this
    rw [paysTo_zero l P hok]
    exact this
  rw [hW0]
  clear hW0
  have HOWN := Lib.hid own0
  clear own0
  go_step3
  go_wp2
  clear b0 b1 b2 b3 b4 b5
  go_loopw [20, 5, 7] (fun vr vrest vleft wr => ∃ r : Nat, r ≤ 6 ∧ vr = .int .i64 r ∧ vrest = .int .i64 (P - (paysTo l P r).sum) ∧ vleft = .int .i64 (P - upToR l r) ∧ upToR l r ≤ P ∧ Hid (wr.ownsRow w.heap.size 3 1 (.slice (some ⟨w1.heap.size + 1, 0, none⟩) l.length l.length) l.length ((paysTo l P r).map iv)) ∧ Below w.heap.size w wr) (fun vr _ _ _ => 6 - (intOf vr).toNat)
  case atStart =>
    refine ⟨0, by omega, rfl, ?_, ?_, hP0, HOWN, hB0⟩
    · rw [paysTo_sum0 l P hok]; simp
    · simp [upToR]
  case round =>
    obtain ⟨r, hr, rfl, rfl, rfl, hup, HO, hbw⟩ := hrel
    by_cases hlt : r < 6
    · have hix := fun w => idx6 (sumR Cl3.lo l 0) (sumR Cl3.lo l 1) (sumR Cl3.lo l 2) (sumR Cl3.lo l 3) (sumR Cl3.lo l 4) (sumR Cl3.lo l 5) r hlt (sumR Cl3.lo l) rfl rfl rfl rfl rfl rfl w
      obtain ⟨S, hS⟩ : ∃ S, sumR Cl3.lo l (r : Int) = S := ⟨_, rfl⟩
      obtain ⟨U, hU⟩ : ∃ U, upToR l r = U := ⟨_, rfl⟩
      have hS0 := sumR_bound (f := Cl3.lo) l r fun x hx => ⟨(hok x hx).2.2.1, (hok x hx).2.2.2.1⟩
      have hU0 := upToR_nonneg l hok r
      rw [hS] at hix hS0
      rw [hU] at hup hU0
      rw [hU]
      have hS1 := hS0.1
      have hS2 : S ≤ 9000000000 := by have := hS0.2; omega
      have HS := Lib.hid hS
      have HU := Lib.hid hU
      have HOK := Lib.hid hok
      clear hS0 hS hU hok
      go_wp2
      clear hix
      go_loopw [26, 5] (fun vi vrest wr => ∃ i : Nat, i ≤ l.length ∧ vi = .int .i64 i ∧ vrest = .int .i64 (P - (paysMid l P r i).sum) ∧ Hid (wr.ownsRow w.heap.size 3 1 (.slice (some ⟨w1.heap.size + 1, 0, none⟩) l.length l.length) l.length ((paysMid l P r i).map iv)) ∧ Below w.heap.size w wr) (fun vi _ _ => l.length - (intOf vi).toNat)
      case atStart => exact ⟨0, Nat.zero_le _, rfl, rfl, HO, hbw⟩
      case round =>
        clear HO hbw
        obtain ⟨i, hil, rfl, rfl, HO, hbw⟩ := hrel
        have hsb := paysMid_sum (P := P) (r := r) (i := i) HOK.out hm
        obtain ⟨M, hM⟩ : ∃ M, (paysMid l P r i).sum = M := ⟨_, rfl⟩
        rw [hM] at hsb ⊢
        have hM0 := hsb.1
        have hM9 := hsb.2
        have HM := Lib.hid hM
        clear hsb hM
        by_cases hli : i < l.length
        · obtain ⟨c, hx⟩ : ∃ x, l[i]? = some x := ⟨_, List.getElem?_eq_getElem hli⟩
          obtain ⟨b, off, rfl, hbB, e0, e1, e2⟩ := c3At (hR.below hbw hB) hx
          obtain ⟨hr1, hr5, hl0, hl9, hh0, hh9⟩ := HOK.out c (List.mem_of_getElem? hx)
          have hz := hbw.size
          by_cases hrk : c.rank = (r : Int)
          · have hset := paysMid_set (P := P) hx hrk
            have hat := paysMid_at (P := P) hx hrk
            have hsum := sum_set (x := payAt l P c) hat
            rw [← hset, HM.out] at hsum
            have hpb := payAt_bound (P := P) HOK.out (List.mem_of_getElem? hx)
            have hpay : payAt l P c = if U + S ≤ P then c.lo else (P - U) * c.lo / S := by
              unfold payAt
              rw [hrk, Int.toNat_natCast, HU.out, HS.out, if_pos hup]
            have hge := sumR_ge l (fun x hx => (HOK.out x hx).2.2.1) c (List.mem_of_getElem? hx)
            rw [hrk, HS.out] at hge
            obtain ⟨p, hp⟩ : ∃ p, payAt l P c = p := ⟨_, rfl⟩
            rw [hp] at hset hsum hpb hpay
            obtain ⟨rank, lo, hi2⟩ := c
            simp only at hrk hl0 hl9 hh0 hh9 hpb hpay e0 e1 e2 hge
            subst hrk
            have hcell := HO.out.cellAt i (by omega)
            rw [List.getElem?_map, hat] at hcell
            simp only [Option.map_some] at hcell
            have hfz := HO.out.frozenAt i
            have hst := (HO.out.stored i (iv p)).1
            rw [← List.map_set, ← hset] at hst
            have HST := Lib.hid hst
            have HSUM := Lib.hid hsum
            have hp0 := hpb.1
            have hp9 : p ≤ 1000000000 := by have := hpb.2; omega
            have hown : w1.heap.size + 1 < wr.heap.size := (HO.out.lt _ rfl).2
            clear hst hset hat hsum hpb hp hx HO
            by_cases hle : U + S ≤ P
            · rw [if_pos hle] at hpay
              subst hpay
              have hge2 : S ≤ P - U := by omega
              go_wp2
              go_roundw
              case rel => exact ⟨i + 1, by omega, by go_num, by rw [HSUM.out]; exact congrArg (Value.int .i64) (by omega), HST.out.alloc _, belowA (belowS hbw (by simp; have := hb.size; omega) _) _⟩
              case measure => simp [intOf]; omega
            · rw [if_neg hle] at hpay
              have hlt2 : P - U < S := by omega
              have hge2 : ¬ (S ≤ P - U) := by omega
              have hSn : (S == 0) = false := beq_eq_false_iff_ne.2 (by omega)
              have hS0 : S ≠ 0 := by omega
              have hm1 : 0 ≤ (P - U) * lo := Int.mul_nonneg (by omega) hl0
              have hm2 : (P - U) * lo ≤ 1000000000000000000 := by
                have h1 : (P - U) * lo ≤ 1000000000 * lo := Int.mul_le_mul_of_nonneg_right (by omega) hl0
                omega
              obtain ⟨m, hmm⟩ : ∃ m, (P - U) * lo = m := ⟨_, rfl⟩
              rw [hmm] at hm1 hm2 hpay
              have HPAY := Lib.hid hpay
              clear hpay
              go_wp2
              rw [← HPAY.out]
              have hw : wrap64 (P - M - p) = P - M - p := by unfold wrap64; omega
              rw [hw]
              go_roundw
              case rel => exact ⟨i + 1, by omega, by go_num, by rw [HSUM.out]; exact congrArg (Value.int .i64) (by omega), HST.out.alloc _, belowA (belowS hbw (by simp; have := hb.size; omega) _) _⟩
              case measure => simp [intOf]; omega
          · have hsk := paysMid_skip (P := P) hx hrk
            obtain ⟨rank, lo, hi2⟩ := c
            simp only at hrk hl0 hl9 hh0 hh9 e0 e1 e2
            have hne : (rank == (r : Int)) = false := beq_eq_false_iff_ne.2 hrk
            have HSK := Lib.hid hsk
            clear hsk hx
            go_wp2
            go_roundw
            case rel => exact ⟨i + 1, by omega, by go_num, by rw [HSK.out, HM.out], by rw [HSK.out]; exact HO.out.alloc _, belowA hbw _⟩
            case measure => simp [intOf]; omega
        · obtain rfl : i = l.length := by omega
          by_cases hlt2 : P - U < S
          · have hout := paysTo_out (r := r) (P := P) HOK.out (by simp only [upToR]; rw [HU.out, HS.out]; omega)
            have hmid := paysMid_all l P r
            rw [hout] at hmid
            rw [hmid] at HM HO
            have HM2 := Lib.hid HM.out
            clear hmid hout HM
            go_wp2
            rw [Exit.noGoto_ret]
            refine bodyPost_ret (results_tmp2 rfl _ _ _) rfl ?_
            exact ⟨_, _, by rw [HM2.out]; rfl, HO.out, hbw⟩
          · have hmid := paysMid_all l P r
            have hup2 : upToR l (r + 1) = U + S := by simp only [upToR]; rw [HU.out, HS.out]
            have HMID := Lib.hid hmid
            have HUP := Lib.hid hup2
            clear hmid hup2
            go_wp2
            go_roundw
            case rel => exact ⟨r + 1, by omega, by go_num, by rw [← HMID.out, HM.out], by rw [HUP.out]; exact congrArg (Value.int .i64) (by omega), by rw [HUP.out]; omega, by rw [← HMID.out]; exact HO, hbw⟩
            case measure => simp [intOf]; omega
    · obtain rfl : r = 6 := by omega
      rw [paysTo_all l P hok]
      rw [paysTo_all l P hok] at HO
      go_wp2
      rw [Exit.noGoto_ret]
      refine bodyPost_ret (results_tmp2 rfl _ _ _) rfl ?_
      exact ⟨_, _, rfl, HO.out, hbw⟩
end Go.Proofs.Ytblbbhenmhkknaa

namespace Go.Proofs.Ytblbbhenmhkknaa
open Go.RowKit

theorem truth1_any (i : Nat) (r lo hi x : Int) (g B capD : Nat) (D : Option Addr) (ds : List Int) (w : World) (hc : w.cell? ⟨g, 1, none⟩ = some (.slice D ds.length capD)) (hD : Rd1 iv w B D ds) (hx : ds[i]? = some x) :
    Calls Try.prog 105 #[.int .i64 i, .agg #[.int .i64 r, .int .i64 lo, .int .i64 hi], .pointer (some ⟨g, 0, none⟩)] w fun e w' => e = .returned (.int .i64 x) ∧ Below w.heap.size w w' := by
  obtain ⟨b, off, rfl, _, hd⟩ := hD i x hx
  have hi : i < ds.length := (List.getElem?_eq_some_iff.1 hx).1
  have hiz : (i : Int) < (ds.length : Int) := by omega
  have hca := fun ob => keepA hc ob
  have hda := fun ob => keepA hd ob
  clear hx
  go_enter Try.func105, Try.ntmps105
  go_wp2
  go_ret
  exact ⟨rfl, belowA (belowR _) _⟩

/-- Whether each number is within its claim's cents. -/
def centsOk (cs : List Cl3) (ds : List Int) (k : Nat) : Bool := (List.range k).all fun i => match cs[i]?, ds[i]? with | some c, some d => inB c.lo c.hi d | _, _ => true
theorem centsOk_succ (cs : List Cl3) (ds : List Int) (k : Nat) (c : Cl3) (d : Int) (h1 : cs[k]? = some c) (h2 : ds[k]? = some d) : centsOk cs ds (k + 1) = (centsOk cs ds k && inB c.lo c.hi d) := by
  unfold centsOk
  rw [List.range_succ, List.all_append]
  simp [h1, h2]
theorem centsOk_no {cs : List Cl3} {ds : List Int} {k n : Nat} {c : Cl3} {d : Int} (h1 : cs[k]? = some c) (h2 : ds[k]? = some d) (h : inB c.lo c.hi d = false) (hk : k < n) : centsOk cs ds n = false := by
  unfold centsOk
  rw [List.all_eq_false]
  exact ⟨k, List.mem_range.2 hk, by simp [h1, h2, h]⟩
/-- The error of a truth of an estate. -/
def truthE (lo hi : Int) (cs : List Clm) (P : Int) (ds : List Int) : Int :=
  if estErr lo hi cs = 0 then (if ds.length = cs.length then (if inB lo hi P then (if centsOk (cs.map c3) ds cs.length then 0 else 7) else 7) else 3) else estErr lo hi cs

def TruthNo (E : Int) (w : World) (e : Ending) (w' : World) : Prop := e = .returned (.tuple #[.slice none 0 0, iv E]) ∧ Below w.heap.size w w'

set_option maxRecDepth 100000 in
set_option maxHeartbeats 4000000 in
theorem truth_bad (lo hi : Int) (A D : Option Addr) (cs : List Clm) (B cap capD : Nat) (P : Int) (ds : List Int) (w : World) (hm : cs.length ≤ cap) (hcm : cap ≤ maxLen) (hok : ClmsOk cs) (hR : RdN 4 encClm w B A cs) (hB : B ≤ w.heap.size) (hE : estErr lo hi cs ≠ 0) :
    Calls Try.prog 73 #[.agg #[.int .i64 lo, .int .i64 hi, .slice A cs.length cap], .agg #[.int .i64 P, .slice D ds.length capD]] w (TruthNo (estErr lo hi cs) w) := by
  have hop := fun w (hR : RdN 4 encClm w B A cs) (hB : B ≤ w.heap.size) => enter_no lo hi A cs B cap w hm hcm hok hR hB hE
  obtain ⟨E, hEE⟩ : ∃ E, estErr lo hi cs = E := ⟨_, rfl⟩
  rw [hEE] at hE hop ⊢
  have hne : (E != 0) = true := by simpa using hE
  have HOP := Lib.hid hop
  clear hop hEE hE
  go_enter Try.func73, Try.ntmps73
  go_wp2_with fail
  refine (HOP.out _ (hR.below (B' := w.heap.size) (belowA (belowA (belowR _) _) _) hB) (by simp; omega)).mono ?_
  rintro e w1 ⟨rfl, hb⟩
  have hB1 := belowT (belowA (belowA (belowR _) _) _) hb
  go_wp2
  refine bodyPost_ret (results_tmp2 rfl _ _ _) rfl ?_
  exact ⟨rfl, belowA hB1 _⟩
end Go.Proofs.Ytblbbhenmhkknaa

namespace Go.Proofs.Ytblbbhenmhkknaa
open Go.RowKit

theorem rangeE_ok_iff {L H lo hi : Int} (h : rangeE L H lo hi = 0) : L ≤ lo ∧ lo ≤ hi ∧ hi ≤ H := by
  unfold rangeE at h
  cases h1 : inB L H lo
  · simp [h1] at h
  · cases h2 : inB L H hi
    · simp [h1, h2] at h
    · simp only [h1, h2, Bool.and_self, if_true] at h
      have a := inB_t h1
      have b := inB_t h2
      split at h
      · omega
      · omega
structure EstOk (lo hi : Int) (cs : List Clm) : Prop where
  span : 0 ≤ lo ∧ lo ≤ hi ∧ hi ≤ 1000000000
  len : 1 ≤ cs.length ∧ cs.length ≤ 8
  told : ∀ (i : Nat) (c : Clm), cs[i]? = some c → toldE (cs.take i) c = 0
  each : ∀ c ∈ cs, nameB c.name = true ∧ 1 ≤ c.rank ∧ c.rank ≤ 5 ∧ 0 ≤ c.lo ∧ c.lo ≤ c.hi ∧ c.hi ≤ 1000000000
theorem toldE_ok {l : List Clm} {c : Clm} (h : toldE l c = 0) : nameB c.name = true ∧ taken l c.name = false ∧ 1 ≤ c.rank ∧ c.rank ≤ 5 ∧ 0 ≤ c.lo ∧ c.lo ≤ c.hi ∧ c.hi ≤ 1000000000 := by
  unfold toldE at h
  cases h1 : nameB c.name
  · simp [h1] at h
  · cases h2 : taken l c.name
    · cases h3 : inB 1 5 c.rank
      · simp [h1, h2, h3] at h
      · simp only [h1, h2, h3, if_true, Bool.false_eq_true, if_false] at h
        have a := inB_t h3
        have b := rangeE_ok_iff h
        exact ⟨rfl, rfl, a.1, a.2, b.1, b.2.1, b.2.2⟩
    · simp [h1, h2] at h
theorem est_ok {lo hi : Int} {cs : List Clm} (h : estErr lo hi cs = 0) : EstOk lo hi cs := by
  unfold estErr estE at h
  by_cases h1 : rangeE 0 1000000000 lo hi = 0
  · cases h2 : inB 1 8 (cs.length : Int)
    · simp [h1, h2] at h
    · simp only [h1, h2, if_true] at h
      cases h3 : firstBad (toldAt cs) cs.length with
      | some p =>
        obtain ⟨i, e⟩ := p
        obtain ⟨a, _, _⟩ := firstBad_some h3
        rw [h3] at h
        exact absurd h a
      | none =>
        have ht : ∀ (i : Nat) (c : Clm), cs[i]? = some c → toldE (cs.take i) c = 0 := fun i c hc => by
          have := firstBad_none h3 (List.getElem?_eq_some_iff.1 hc).1
          simpa [toldAt, hc] using this
        have a := inB_t h2
        refine ⟨rangeE_ok_iff h1, by omega, ht, fun c hc => ?_⟩
        obtain ⟨i, hi⟩ := List.getElem?_of_mem hc
        have := toldE_ok (ht i c hi)
        exact ⟨this.1, this.2.2⟩
  · simp [h1] at h
theorem EstOk.ok3 {lo hi : Int} {cs : List Clm} (h : EstOk lo hi cs) : C3Ok (cs.map c3) := by
  intro c hc
  obtain ⟨x, hx, rfl⟩ := List.mem_map.1 hc
  have := h.each x hx
  show 1 ≤ x.rank ∧ x.rank ≤ 5 ∧ 0 ≤ x.lo ∧ x.lo ≤ 1000000000 ∧ 0 ≤ x.hi ∧ x.hi ≤ 1000000000
  omega
end Go.Proofs.Ytblbbhenmhkknaa

namespace Go.Proofs.Ytblbbhenmhkknaa
open Go.RowKit

/-- The greatest cents of the claims of the first ranks. -/
def upToH (l : List Cl3) : Nat → Int
  | 0 => 0
  | r + 1 => upToH l r + sumR Cl3.hi l r
/-- The least proceeds with which a claim is surely paid. -/
def needI (l : List Cl3) (c : Cl3) : Int := if c.hi = 0 then 0 else upToH l (c.rank.toNat + 1)
theorem upToH_bd (l : List Cl3) (hok : C3Ok l) (hm : l.length ≤ 9) : ∀ r : Nat, 0 ≤ upToH l r ∧ upToH l r ≤ r * 9000000000 := by
  intro r
  induction r with
  | zero => simp [upToH]
  | succ r ih =>
    have := sumR_bound (f := Cl3.hi) l r fun x hx => ⟨(hok x hx).2.2.2.2.1, (hok x hx).2.2.2.2.2⟩
    simp only [upToH]
    omega

set_option maxRecDepth 100000 in
set_option maxHeartbeats 2000000 in
theorem need_any (lo hi : Int) (A A3 : Option Addr) (n cap cap3 i : Nat) (l : List Cl3) (c : Cl3) (B : Nat) (w : World) (hm : l.length ≤ 9) (hok : C3Ok l) (hR : RdN 3 encC3 w B A3 l) (hB : B ≤ w.heap.size) (hx : l[i]? = some c) :
    Calls Try.prog 86 #[.agg #[.int .i64 lo, .int .i64 hi, .slice A n cap, .slice A3 l.length cap3], .int .i64 i] w fun e w' => e = .returned (iv (needI l c)) ∧ Below w.heap.size w w' := by
  have hil := (List.getElem?_eq_some_iff.1 hx).1
  obtain ⟨hr1, hr5, hl0, hl9, hh0, hh9⟩ := hok c (List.mem_of_getElem? hx)
  obtain ⟨b, off, rfl, hbB, e0, e1, e2⟩ := c3At hR hx
  have hiz : (i : Int) < (l.length : Int) := by omega
  have hi0 : (0 : Int) ≤ (i : Int) := by omega
  have k0 := fun ob => keepA e0 ob
  have k1 := fun ob => keepA e1 ob
  have k2 := fun ob => keepA e2 ob
  obtain ⟨rank, clo, chi⟩ := c
  simp only at e0 e1 e2 k0 k1 k2 hr1 hr5 hl0 hl9 hh0 hh9
  obtain ⟨rk, rfl⟩ : ∃ r : Nat, rank = r := ⟨rank.toNat, by omega⟩
  have HX := Lib.hid hx
  clear hx
  by_cases hz : chi = 0
  · subst hz
    go_enter Try.func86, Try.ntmps86
    go_wp2
    go_ret
    exact ⟨by simp [needI], belowA (belowA (belowR _) _) _⟩
  · have hne : (chi == 0) = false := beq_eq_false_iff_ne.2 hz
    have hnd : needI l ⟨rk, clo, chi⟩ = upToH l (rk + 1) := by simp [needI, hz]
    have HND := Lib.hid hnd
    have hs := fun W (hR : RdN 3 encC3 W W.heap.size (some ⟨b, off, none⟩) l) => summed_hi (some ⟨b, off, none⟩) l W.heap.size cap3 W hm hok hR (Nat.le_refl _)
    have HS := Lib.hid hs
    have HOK := Lib.hid hok
    have hbw0 : Below w.heap.size w _ := belowA (belowA (belowR w) (.cells #[.int .i64 lo, .int .i64 hi, .slice A n cap, .slice (some ⟨b, off, none⟩) l.length cap3] 127)) (.cells #[.int .i64 rk, .int .i64 clo, .int .i64 chi] 125)
    have hrd := (hR.below hbw0 hB).more (Nat.le_trans hB hbw0.size)
    have HRD := Lib.hid hrd
    clear hnd hs hok hR hrd hz
    go_enter Try.func86, Try.ntmps86
    go_wp2_with fail
    refine (HS.out _ HRD.out).mono ?_
    rintro e w1 ⟨rfl, hb⟩
    have hB1 := belowT hbw0 hb
    have q0 : w1.cell? ⟨w.heap.size + 1, 0, none⟩ = some (.int .i64 rk) := keepC hb (by go_simp)
    unfold sums
    clear hb hbw0 k0 k1 k2 e0 e1 e2 HRD HS
    go_wp2
    go_loop [20, 4] (fun vr vn => ∃ r : Nat, r ≤ 6 ∧ vr = .int .i64 r ∧ vn = .int .i64 (upToH l (min r (rk + 1)))) (fun vr _ => 6 - (intOf vr).toNat)
    case atStart => exact ⟨0, by omega, rfl, by simp [upToH]⟩
    case round =>
      obtain ⟨r, hr, rfl, rfl⟩ := hrel
      by_cases hlt : r < 6
      · have hix := fun w => idx6 (sumR Cl3.hi l 0) (sumR Cl3.hi l 1) (sumR Cl3.hi l 2) (sumR Cl3.hi l 3) (sumR Cl3.hi l 4) (sumR Cl3.hi l 5) r hlt (sumR Cl3.hi l) rfl rfl rfl rfl rfl rfl w
        obtain ⟨S, hS⟩ : ∃ S, sumR Cl3.hi l (r : Int) = S := ⟨_, rfl⟩
        have hS0 := sumR_bound (f := Cl3.hi) l r fun x hx => ⟨(HOK.out x hx).2.2.2.2.1, (HOK.out x hx).2.2.2.2.2⟩
        have hU0 := upToH_bd l HOK.out hm (min r (rk + 1))
        have hmin : ((min r (rk + 1) : Nat) : Int) ≤ 6 := by omega
        obtain ⟨U, hU⟩ : ∃ U, upToH l (min r (rk + 1)) = U := ⟨_, rfl⟩
        rw [hS] at hix hS0
        rw [hU] at hU0 ⊢
        have hU1 := hU0.1
        have hU2 : U ≤ 54000000000 := by have := hU0.2; omega
        have hS1 := hS0.1
        have hS2 : S ≤ 9000000000 := by have := hS0.2; omega
        have HU := Lib.hid hU
        have HSS := Lib.hid hS
        clear hS0 hU0 hU hS hmin
        by_cases hle : r ≤ rk
        · have hup : upToH l (min (r + 1) (rk + 1)) = U + S := by
            rw [← HU.out, ← HSS.out, show min (r + 1) (rk + 1) = r + 1 from by omega, show min r (rk + 1) = r from by omega]; rfl
          have HUP := Lib.hid hup
          have hlei : (r : Int) ≤ (rk : Int) := by omega
          clear hup
          go_wp2
          go_round
          case rel => exact ⟨r + 1, by omega, by go_num, by rw [HUP.out]⟩
          case measure => simp [intOf]; omega
        · have hup : upToH l (min (r + 1) (rk + 1)) = U := by
            rw [← HU.out, show min (r + 1) (rk + 1) = min r (rk + 1) from by omega]
          have HUP := Lib.hid hup
          have hlei : ¬ (r : Int) ≤ (rk : Int) := by omega
          clear hup
          go_wp2
          go_round
          case rel => exact ⟨r + 1, by omega, by go_num, by rw [HUP.out]⟩
          case measure => simp [intOf]; omega
      · obtain rfl : r = 6 := by omega
        have hmin : min 6 (rk + 1) = rk + 1 := by omega
        rw [hmin]
        clear hmin
        go_wp2
        go_ret
        exact ⟨by rw [HND.out]; rfl, hB1⟩

/-- What Least answers. -/
def leastR (lo hi : Int) (cs : List Clm) (at_ : Int) : Int × Int :=
  if estErr lo hi cs = 0 then (if inB 0 ((cs.length : Int) - 1) at_ then (match cs[at_.toNat]? with | some c => needI (cs.map c3) (c3 c) | none => 0, 0) else (0, 4)) else (0, estErr lo hi cs)

set_option maxRecDepth 100000 in
set_option maxHeartbeats 2000000 in
theorem least_any (lo hi at_ : Int) (A : Option Addr) (cs : List Clm) (B cap : Nat) (w : World) (hm : cs.length ≤ cap) (hcm : cap ≤ maxLen) (hok : ClmsOk cs) (hR : RdN 4 encClm w B A cs) (hB : B ≤ w.heap.size) :
    Calls Try.prog 37 #[.agg #[.int .i64 lo, .int .i64 hi, .slice A cs.length cap], .int .i64 at_] w fun e w' => e = .returned (.tuple #[iv (leastR lo hi cs at_).1, iv (leastR lo hi cs at_).2]) ∧ Below w.heap.size w w' := by
  have hb0 : Below w.heap.size w _ := belowA (belowR w) (.cells #[.int .i64 lo, .int .i64 hi, .slice A cs.length cap] 42)
  by_cases hE : estErr lo hi cs = 0
  case neg =>
    have hop := enter_no lo hi A cs B cap (w.alloc (.cells #[.int .i64 lo, .int .i64 hi, .slice A cs.length cap] 42)) hm hcm hok (hR.below hb0 hB) (Nat.le_trans hB hb0.size) hE
    have hr : leastR lo hi cs at_ = (0, estErr lo hi cs) := by simp [leastR, hE]
    obtain ⟨E, hEE⟩ : ∃ E, estErr lo hi cs = E := ⟨_, rfl⟩
    rw [hEE] at hE hop hr
    have hne : (E != 0) = true := by simpa using hE
    rw [hr]
    have HOP := Lib.hid hop
    clear hop hEE hE hr
    go_enter Try.func37, Try.ntmps37
    go_wp2_with fail
    refine HOP.out.mono ?_
    rintro e w1 ⟨rfl, hb⟩
    have hB1 := belowT hb0 hb
    clear hb hb0
    go_wp2
    go_ret2
    exact ⟨rfl, belowA hB1 _⟩
  have hest := est_ok hE
  have hop := enter_yes lo hi A cs B cap (w.alloc (.cells #[.int .i64 lo, .int .i64 hi, .slice A cs.length cap] 42)) hm hcm hest.len.2 hok (hR.below hb0 hB) (Nat.le_trans hB hb0.size) hE
  have hok3 := hest.ok3
  have HOP := Lib.hid hop
  have hle8 := hest.len.2
  have hge1 := hest.len.1
  cases hin : inB 0 ((cs.length : Int) - 1) at_
  · have hr : leastR lo hi cs at_ = (0, 4) := by simp [leastR, hE, hin]
    rw [hr]
    clear hop hE hr
    go_enter Try.func37, Try.ntmps37
    go_wp2_with fail
    refine HOP.out.mono ?_
    rintro e w1 ⟨A3, cap3, rfl, hrd, _, _, hb⟩
    have hB1 := belowT hb0 hb
    clear hb hb0
    go_wp2_with fail
    refine (out_one 0 _ at_ _ _ (by go_simp) (by simp)).mono ?_
    rintro e w2 ⟨rfl, hb2⟩
    have hB2 := belowT (belowA (belowA hB1 _) _) hb2
    go_wp2
    go_ret2
    exact ⟨rfl, hB2⟩
  · obtain ⟨ha, hb9⟩ := inB_t hin
    obtain ⟨i, rfl⟩ : ∃ i : Nat, at_ = i := ⟨at_.toNat, by omega⟩
    obtain ⟨c, hx⟩ : ∃ c, cs[i]? = some c := ⟨_, List.getElem?_eq_getElem (by omega)⟩
    have hr : leastR lo hi cs i = (needI (cs.map c3) (c3 c), 0) := by simp [leastR, hE, hin, hx]
    rw [hr]
    obtain ⟨L, hL⟩ : ∃ L, cs.map c3 = L := ⟨_, rfl⟩
    have hLl : L.length = cs.length := by rw [← hL]; simp
    have hx3 : L[i]? = some (c3 c) := by rw [← hL, List.getElem?_map, hx]; rfl
    rw [hL] at hok3 ⊢
    have hnd := fun W A3 cap3 B (hR : RdN 3 encC3 W B A3 L) (hB : B ≤ W.heap.size) => need_any lo hi A A3 cs.length cap cap3 i L (c3 c) B W (by omega) hok3 hR hB hx3
    rw [hLl] at hnd
    have HND := Lib.hid hnd
    have HL := Lib.hid hL
    clear hop hE hr hnd hL hLl hx3 hx
    go_enter Try.func37, Try.ntmps37
    go_wp2_with fail
    refine HOP.out.mono ?_
    rintro e w1 ⟨A3, cap3, rfl, hrd, _, _, hb⟩
    rw [HL.out] at hrd
    have hB1 := belowT hb0 hb
    have HRD := Lib.hid hrd
    clear hb hb0 hrd
    go_wp2_with fail
    refine (out_one 0 _ i _ _ (by go_simp) (by simp)).mono ?_
    rintro e w2 ⟨he, hb2⟩
    rw [hin] at he
    subst he
    have hB2 := belowT (belowA (belowA hB1 _) _) hb2
    have p0 : w2.cell? ⟨w1.heap.size, 0, none⟩ = some (.int .i64 lo) := keepC hb2 (by go_simp)
    have p1 : w2.cell? ⟨w1.heap.size, 1, none⟩ = some (.int .i64 hi) := keepC hb2 (by go_simp)
    have p2 : w2.cell? ⟨w1.heap.size, 2, none⟩ = some (.slice A cs.length cap) := keepC hb2 (by go_simp)
    have p3 : w2.cell? ⟨w1.heap.size, 3, none⟩ = some (.slice A3 cs.length cap3) := keepC hb2 (by go_simp)
    have hrd2 : RdN 3 encC3 w2 w1.heap.size A3 L := HRD.out.below (B' := w1.heap.size) (belowT (belowA (belowA (belowR _) _) _) hb2) (Nat.le_refl _)
    have z2 : w1.heap.size ≤ w2.heap.size := by have := hb2.size; simp only [World.size_alloc] at this; omega
    have HRD2 := Lib.hid hrd2
    clear hb2 hrd2
    go_wp2_with fail
    refine (HND.out _ A3 cap3 _ HRD2.out z2).mono ?_
    rintro e w3 ⟨rfl, hb3⟩
    have hB3 := belowT hB2 hb3
    go_wp2
    go_ret2
    exact ⟨rfl, hB3⟩
end Go.Proofs.Ytblbbhenmhkknaa
