/- The reference's joint and Check. -/
import Derived.Test.YtojgdallodmanaaZ382934
import Derived.Test.YtojgdallodmanaaYR1
namespace Go.Proofs.Ytojgdallodmanaa
open Go.RowKit

theorem in_b {n lo hi : Int} {b : Bool} (h : inB lo hi n = b) (w : World) : Calls Try.prog 59 #[.int .i64 n, .int .i64 lo, .int .i64 hi] w fun e w' => e = .returned (.bool b) ∧ w = w' := by
  subst h; exact in_any n lo hi w

set_option maxRecDepth 100000 in
set_option maxHeartbeats 4000000 in
theorem joint_any (h : Hul) (A J : Option Addr) (B cap capJ k : Nat) (w : World) (hH : HulRd w B h A cap J capJ) (hk : k < h.js.length) (hB : B ≤ w.heap.size) :
    Calls Try.prog 62 #[hv h A cap J capJ, .int .i64 k] w fun e w' => e = .returned (iv (jointE h.ps.length h.js k)) ∧ Below w.heap.size w w' := by
  obtain ⟨W1, hW1, hb0, hz1, p0, p1, p2, p3, p4⟩ := hulBox w h A cap J capJ
  have hpm := hH.pm
  have hjm := hH.jm
  have hpl := hH.pl
  have hjl := hH.jl
  unfold maxLen at hpm hjm
  obtain ⟨j, hj⟩ : ∃ j, h.js[k]? = some j := ⟨_, List.getElem?_eq_getElem hk⟩
  obtain ⟨a, b⟩ := j
  obtain ⟨bb, off, rfl, _, d0, d1⟩ := spAt (hH.js.below hb0 hB) hj
  simp only at d0 d1
  have hJE : jointE h.ps.length h.js k = if inB 0 ((h.ps.length : Int) - 1) a && inB 0 ((h.ps.length : Int) - 1) b then (if b ≤ a then 2 else if hasJ (h.js.take k) (a, b) then 5 else 0) else 4 := by unfold jointE; rw [hj]
  obtain ⟨R, hR⟩ : ∃ R, jointE h.ps.length h.js k = R := ⟨_, rfl⟩
  rw [hR] at hJE ⊢
  have hlt0 := lt_of_cell p0
  have hlt1 := lt_of_cell d0
  have HJ := Lib.hid (hH.js.below hb0 hB)
  have HB0 := Lib.hid hb0
  have hzz : w.heap.size ≤ W1.heap.size := hb0.size
  clear hz1 hb0 hH p2 p3 p4 hR
  obtain ⟨N, hN⟩ : ∃ N, h.ps.length = N := ⟨_, rfl⟩
  obtain ⟨M, hM⟩ : ∃ M, h.js.length = M := ⟨_, rfl⟩
  have hjj := hj
  clear hj
  have HJJ := Lib.hid hjj
  have hkM : (k : Int) < (M : Int) := by omega
  have hk0 : (0 : Int) ≤ (k : Int) := by omega
  rw [hN] at hJE p0 hW1 hpl
  rw [hM] at p1 hW1 hjl
  clear hjj hk
  cases h1 : inB 0 ((N : Int) - 1) a
  · have hr : R = 4 := by rw [hJE, h1]; rfl
    subst hr
    have H1 := Lib.hid h1
    clear h1 hJE
    go_enter Try.func62, Try.ntmps62
    go_wp2_with (go_at_call 59; refine (in_b H1.out _).mono ?_; rintro e w2 ⟨rfl, rfl⟩)
    go_ret
    exact ⟨rfl, belowA HB0.out _⟩
  cases h2 : inB 0 ((N : Int) - 1) b
  · have hr : R = 4 := by rw [hJE, h1, h2]; rfl
    subst hr
    have H1 := Lib.hid h1
    have H2 := Lib.hid h2
    clear h1 h2 hJE
    go_enter Try.func62, Try.ntmps62
    go_wp2_with fail
    refine (in_b H1.out _).mono ?_
    rintro e w2 ⟨rfl, rfl⟩
    go_wp2_with fail
    refine (in_b H2.out _).mono ?_
    rintro e w2 ⟨rfl, rfl⟩
    go_wp2_with fail
    go_ret
    exact ⟨rfl, belowA HB0.out _⟩
  have H1 := Lib.hid h1
  have H2 := Lib.hid h2
  rw [h1, h2] at hJE
  simp only [Bool.and_self, if_true] at hJE
  clear h1 h2
  by_cases h3 : b ≤ a
  · rw [if_pos h3] at hJE
    subst hJE
    go_enter Try.func62, Try.ntmps62
    go_wp2_with fail
    refine (in_b H1.out _).mono ?_
    rintro e w2 ⟨rfl, rfl⟩
    go_wp2_with fail
    refine (in_b H2.out _).mono ?_
    rintro e w2 ⟨rfl, rfl⟩
    go_wp2_with fail
    go_ret
    exact ⟨rfl, belowA HB0.out _⟩
  · rw [if_neg h3] at hJE
    have HE := Lib.hid hJE
    obtain ⟨W2, hW2⟩ : ∃ W2, W1.alloc (.cells #[.int .i64 a, .int .i64 b] 79) = W2 := ⟨_, rfl⟩
    have hb2 : Below W1.heap.size W1 W2 := by rw [← hW2]; exact belowA (belowR _) _
    have c0 : W2.cell? ⟨W1.heap.size, 0, none⟩ = some (.int .i64 a) := by rw [← hW2]; clear hW1 hW2; go_simp
    have c1 : W2.cell? ⟨W1.heap.size, 1, none⟩ = some (.int .i64 b) := by rw [← hW2]; clear hW1 hW2; go_simp
    have HC : Hid (∀ W, Below W2.heap.size W2 W → W.cell? ⟨w.heap.size, 0, none⟩ = some (.slice A N cap) ∧ W.cell? ⟨w.heap.size, 1, none⟩ = some (.slice (some ⟨bb, off, none⟩) M capJ) ∧ W.cell? ⟨W1.heap.size, 0, none⟩ = some (.int .i64 a) ∧ W.cell? ⟨W1.heap.size, 1, none⟩ = some (.int .i64 b)) := Lib.hid fun W hb => ⟨keepC hb (keepC hb2 p0), keepC hb (keepC hb2 p1), keepC hb c0, keepC hb c1⟩
    have HB2 := Lib.hid (belowT HB0.out hb2)
    have HJ2 := Lib.hid (HJ.out.below hb2 (Nat.le_trans hB HB0.out.size))
    have hz2 := hb2.size
    have HZ := Lib.hid (Nat.le_trans hB (Nat.le_trans HB0.out.size hb2.size))
    obtain ⟨q0, q1, e0, e1⟩ := HC.out W2 (belowR _)
    clear hb2 hJE
    go_enter Try.func62, Try.ntmps62
    go_wp2_with fail
    refine (in_b H1.out _).mono ?_
    rintro e w2 ⟨rfl, rfl⟩
    go_wp2_with fail
    refine (in_b H2.out _).mono ?_
    rintro e w2 ⟨rfl, rfl⟩
    go_wp2_with fail
    clear hW1 hW2 p0 p1 d0 d1 c0 c1 q0 q1 e0 e1
    go_loopw [6] (fun i wr => ∃ q : Nat, q ≤ k ∧ i = .int .i64 q ∧ Hid (hasJ (h.js.take q) (a, b) = false) ∧ Hid (Below W2.heap.size W2 wr)) (fun i _ => k - (intOf i).toNat)
    case atStart => exact ⟨0, Nat.zero_le _, rfl, Lib.hid (by simp [hasJ]), Lib.hid (belowR _)⟩
    case round =>
      obtain ⟨q, hq, rfl, HN, HBW⟩ := hrel
      obtain ⟨p0, p1, c0, c1⟩ := HC.out _ HBW.out
      by_cases hlt : q < k
      · obtain ⟨x, hx⟩ : ∃ x, h.js[q]? = some x := ⟨_, List.getElem?_eq_getElem (by omega)⟩
        obtain ⟨x0, x1⟩ := x
        obtain ⟨b2, off2, he2, _, d0, d1⟩ := spAt (HJ2.out.below HBW.out HZ.out) hx
        injection he2 with he2
        injection he2 with he3 he4
        subst he3 he4
        simp only at d0 d1
        have Hx := Lib.hid hx
        have hkz : (q : Int) < (M : Int) := by omega
        have hk0 : (0 : Int) ≤ (q : Int) := by omega
        have hkd : (q : Int) < (k : Int) := by omega
        clear hx
        by_cases hp : a = x0 ∧ b = x1
        · obtain ⟨rfl, rfl⟩ := hp
          have hEQ : ∀ w, (Op.equalIn 10000 79 (.agg #[.int .i64 a, .int .i64 b]) (.agg #[.int .i64 a, .int .i64 b])).run Try.prog w = .ok true w := fun w => by have := run_eqJ 9998 a b a b w; simpa using this
          go_wp2_with fail
          go_quiet (fail)
          go_wp2_with fail
          go_ret
          have hyes : hasJ (h.js.take k) (a, b) = true := hasJ_yes (k := q) (x := (a, b)) (by rw [List.getElem?_take, if_pos hlt]; exact Hx.out) (by simp [eqJ])
          exact ⟨by rw [HE.out, hyes]; rfl, belowT HB2.out (belowN HBW.out _)⟩
        · have hp' : eqJ (a, b) (x0, x1) = false := by
            unfold eqJ
            rw [Bool.and_eq_false_iff]
            simp only [beq_eq_false_iff_ne]
            by_cases h : a = x0
            · exact .inr fun h2 => hp ⟨h, h2⟩
            · exact .inl h
          have HP := Lib.hid hp'
          have hp2 : (x0 == a && x1 == b) = false := by
            rw [← hp']
            unfold eqJ
            rw [Bool.eq_iff_iff]
            simp only [Bool.and_eq_true, beq_iff_eq]
            constructor <;> rintro ⟨h1, h2⟩ <;> exact ⟨h1.symm, h2.symm⟩
          have hEQ : ∀ w, (Op.equalIn 10000 79 (.agg #[.int .i64 x0, .int .i64 x1]) (.agg #[.int .i64 a, .int .i64 b])).run Try.prog w = .ok false w := fun w => by have := run_eqJ 9998 x0 x1 a b w; rw [this]; exact congrArg (fun r => Result.ok r w) hp2
          clear hp hp' hp2
          go_wp2_with fail
          go_quiet (fail)
          go_wp2_with fail
          go_roundw
          case rel => exact ⟨q + 1, by omega, by go_num, Lib.hid (by rw [hasJ_snoc _ _ _ _ Hx.out, HN.out, HP.out]; rfl), Lib.hid (belowN HBW.out _)⟩
          case measure => simp [intOf]; omega
      · obtain rfl : q = k := by omega
        go_wp2_with fail
        go_ret
        exact ⟨by rw [HE.out, HN.out]; rfl, belowT HB2.out HBW.out⟩

theorem Try.info9 : (Try.prog.info? 9).map (fun i => (i.zero, i.size, i.bytes)) = some (some (.string ⟨#[]⟩), 1, 16) := by kernel_rfl
set_option maxRecDepth 100000 in
set_option maxHeartbeats 8000000 in
theorem refCheck_any (h : Hul) (A J : Option Addr) (B cap capJ : Nat) (w : World) (hH : HulRd w B h A cap J capJ) (hB : B ≤ w.heap.size) :
    Calls Try.prog 18 #[hv h A cap J capJ] w fun e w' => e = .returned (ret3 (checkE h)) ∧ Below w.heap.size w w' := by
  obtain ⟨i0, hi0, hz0, hz1, hz2⟩ := info_parts Try.info9
  obtain ⟨W1, hW1, hb0, hzz, p0, p1, p2, p3, p4⟩ := hulBox w h A cap J capJ
  have HC : Hid (∀ W, Below W1.heap.size W1 W → W.cell? ⟨w.heap.size, 0, none⟩ = some (.slice A h.ps.length cap) ∧ W.cell? ⟨w.heap.size, 1, none⟩ = some (.slice J h.js.length capJ) ∧ W.cell? ⟨w.heap.size, 2, none⟩ = some (.int .i64 h.slo) ∧ W.cell? ⟨w.heap.size, 3, none⟩ = some (.int .i64 h.shi) ∧ W.cell? ⟨w.heap.size, 4, none⟩ = some (.int .i64 h.winch)) := Lib.hid fun W hb => ⟨keepC hb p0, keepC hb p1, keepC hb p2, keepC hb p3, keepC hb p4⟩
  have hz1' : w.heap.size ≤ W1.heap.size := hb0.size
  have HB0 := Lib.hid hb0
  have HH := Lib.hid (hH.below hb0 hB)
  have hpm := hH.pm
  have hjm := hH.jm
  have hpl := hH.pl
  have hjl := hH.jl
  unfold maxLen at hpm hjm
  obtain ⟨R, hR⟩ : ∃ R, checkE h = R := ⟨_, rfl⟩
  rw [hR]
  have HR := Lib.hid hR
  have hBz := Nat.le_trans hB hb0.size
  clear hb0 hH hR
  have hfin : ∀ (r : Int × Int × Int), R = r → ret3 R = .tuple #[iv r.1, iv r.2.1, iv r.2.2] := fun r h => by rw [h]; rfl
  have HFIN := Lib.hid hfin
  clear hfin
  cases h1 : inB 1 8 (h.ps.length : Int)
  · have hr : R = (1, 0, 3) := by rw [← HR.out]; simp [checkE, h1]
    have HRR := Lib.hid hr
    have H1 := Lib.hid h1
    clear hr h1
    go_enter Try.func18, Try.ntmps18
    go_wp2_with (go_at_call 59; refine (in_b H1.out _).mono ?_; rintro e w2 ⟨rfl, rfl⟩)
    go_ret3
    exact ⟨by rw [HFIN.out _ HRR.out]; rfl, HB0.out⟩
  have hn8 := inB_t h1
  by_cases h2 : h.js.length ≤ 12
  case neg =>
    have hr : R = (1, 0, 3) := by rw [← HR.out]; simp [checkE, h2]
    have HRR := Lib.hid hr
    have H1 := Lib.hid h1
    have hd : (12 : Int) < (h.js.length : Int) := by omega
    clear hr h1
    go_enter Try.func18, Try.ntmps18
    go_wp2_with (go_at_call 59; refine (in_b H1.out _).mono ?_; rintro e w2 ⟨rfl, rfl⟩)
    go_ret3
    exact ⟨by rw [HFIN.out _ HRR.out]; rfl, HB0.out⟩
  have hd : ¬ (12 : Int) < (h.js.length : Int) := by omega
  have H1 := Lib.hid h1
  obtain ⟨E, hE⟩ : ∃ E, rangeE 1 2000 h.slo h.shi = E := ⟨_, rfl⟩
  cases h3 : (inB 1 2000 h.slo && inB 1 2000 h.shi)
  · have hr : R = (1, 0, 7) := by rw [← HR.out]; simp [checkE, h1, h2, h3]
    have HRR := Lib.hid hr
    obtain rfl : E = 7 := by rw [← hE]; exact rangeE_out h3
    have HE := Lib.hid hE
    clear hr h1 h3 hE
    go_enter Try.func18, Try.ntmps18
    go_wp2_with (go_at_call 59; refine (in_b H1.out _).mono ?_; rintro e w2 ⟨rfl, rfl⟩)
    refine (range_any 1 2000 h.slo h.shi _).mono ?_
    rintro e w2 ⟨he, hb2⟩
    rw [HE.out] at he
    subst he
    have HB2 := Lib.hid hb2
    clear hb2 hW1 p0 p1 p2 p3 p4
    obtain ⟨p0, p1, p2, p3, p4⟩ := HC.out _ HB2.out
    go_wp2
    go_ret3
    exact ⟨by rw [HFIN.out _ HRR.out]; rfl, belowT HB0.out HB2.out⟩
  have hE7 : E = if h.shi < h.slo then 2 else 0 := by
    rw [← hE]
    split
    · exact rangeE_turned h3 (by assumption)
    · exact rangeE_ok h3 (by omega)
  cases h4 : inB 1 10000000 h.winch
  · have hr : R = (1, 0, 7) := by rw [← HR.out]; simp [checkE, h1, h2, h3, h4]
    have HRR := Lib.hid hr
    have H4 := Lib.hid h4
    have hne : (E == 7) = false := by rw [hE7]; split <;> rfl
    have HE := Lib.hid hE
    clear hr h1 h3 h4 hE hE7
    go_enter Try.func18, Try.ntmps18
    go_wp2_with (go_at_call 59; refine (in_b H1.out _).mono ?_; rintro e w2 ⟨rfl, rfl⟩)
    refine (range_any 1 2000 h.slo h.shi _).mono ?_
    rintro e w2 ⟨he, hb2⟩
    rw [HE.out] at he
    subst he
    have HB2 := Lib.hid hb2
    clear hb2 hW1 p0 p1 p2 p3 p4
    obtain ⟨p0, p1, p2, p3, p4⟩ := HC.out _ HB2.out
    go_wp2_with (go_at_call 59; refine (in_b H4.out _).mono ?_; rintro e w2 ⟨rfl, rfl⟩)
    go_ret3
    exact ⟨by rw [HFIN.out _ HRR.out]; rfl, belowT HB0.out HB2.out⟩
  have H4 := Lib.hid h4
  by_cases h5 : h.shi < h.slo
  · have hr : R = (1, 0, 2) := by rw [← HR.out]; simp [checkE, h1, h2, h3, h4, h5]
    have HRR := Lib.hid hr
    obtain rfl : E = 2 := by rw [hE7, if_pos h5]
    have HE := Lib.hid hE
    clear hr h1 h3 h4 hE hE7
    go_enter Try.func18, Try.ntmps18
    go_wp2_with (go_at_call 59; refine (in_b H1.out _).mono ?_; rintro e w2 ⟨rfl, rfl⟩)
    refine (range_any 1 2000 h.slo h.shi _).mono ?_
    rintro e w2 ⟨he, hb2⟩
    rw [HE.out] at he
    subst he
    have HB2 := Lib.hid hb2
    clear hb2 hW1 p0 p1 p2 p3 p4
    obtain ⟨p0, p1, p2, p3, p4⟩ := HC.out _ HB2.out
    go_wp2_with (go_at_call 59; refine (in_b H4.out _).mono ?_; rintro e w2 ⟨rfl, rfl⟩)
    go_ret3
    exact ⟨by rw [HFIN.out _ HRR.out]; rfl, belowT HB0.out HB2.out⟩
  have hr : R = listsE h := by rw [← HR.out]; simp [checkE, h1, h2, h3, h4, h5]
  unfold listsE at hr
  have HRR := Lib.hid hr
  obtain rfl : E = 0 := by rw [hE7, if_neg h5]
  have HE := Lib.hid hE
  clear hr h1 h3 h4 hE hE7
  go_enter Try.func18, Try.ntmps18
  go_wp2_with (go_at_call 59; refine (in_b H1.out _).mono ?_; rintro e w2 ⟨rfl, rfl⟩)
  refine (range_any 1 2000 h.slo h.shi _).mono ?_
  rintro e w2 ⟨he, hb2⟩
  rw [HE.out] at he
  subst he
  have HB2 := Lib.hid hb2
  clear hb2 hW1 p0 p1 p2 p3 p4
  obtain ⟨p0, p1, p2, p3, p4⟩ := HC.out _ HB2.out
  go_wp2_with (go_at_call 59; refine (in_b H4.out _).mono ?_; rintro e w2 ⟨rfl, rfl⟩)
  obtain ⟨w1, hw1⟩ : ∃ w1 : World, w1 = w2 := ⟨_, rfl⟩
  have HBW1 : Hid (Below W1.heap.size W1 w1) := Lib.hid (by rw [hw1]; exact HB2.out)
  have hq0 : w1.cell? ⟨w.heap.size, 0, none⟩ = some (.slice A h.ps.length cap) := by rw [hw1]; exact p0
  subst hw1
  have HHW := Lib.hid (HH.out.below HBW1.out hBz)
  have HC1 : Hid (∀ W, Below w1.heap.size w1 W → W.cell? ⟨w.heap.size, 0, none⟩ = some (.slice A h.ps.length cap) ∧ W.cell? ⟨w.heap.size, 1, none⟩ = some (.slice J h.js.length capJ) ∧ W.cell? ⟨w.heap.size, 2, none⟩ = some (.int .i64 h.slo) ∧ W.cell? ⟨w.heap.size, 3, none⟩ = some (.int .i64 h.shi) ∧ W.cell? ⟨w.heap.size, 4, none⟩ = some (.int .i64 h.winch)) := Lib.hid fun W hb => HC.out W (belowT HBW1.out hb)
  have hzw1 : W1.heap.size ≤ w1.heap.size := HBW1.out.size
  have hBw : B ≤ w1.heap.size := Nat.le_trans hBz hzw1
  have HNM := Lib.hid HH.out.nm
  have HHP := Lib.hid HH.out
  clear p0 p1 p2 p3 p4 hq0 HB2 hzz HC
  go_loopw [6, 7] (fun vn vi wr => ∃ (k : Nat) (v : Value), k ≤ h.ps.length ∧ vi = .int .i64 k ∧ v = vn ∧ Hid (wr.ownsRow w1.heap.size 9 1 v k (((h.ps.take k).map Prt.name).map Value.string)) ∧ Hid (Below w1.heap.size w1 wr) ∧ Hid (firstBad (partE h.ps) k = none)) (fun _ vi _ => h.ps.length - (intOf vi).toNat)
  case atStart => exact ⟨0, _, Nat.zero_le _, rfl, rfl, Lib.hid (World.ownsRow_nil _ _ _ _), Lib.hid (belowR _), Lib.hid rfl⟩
  case round =>
    obtain ⟨k, v, hk, rfl, rfl, OWN, HBW, HN⟩ := hrel
    obtain ⟨p0, p1, p2, p3, p4⟩ := HC1.out _ HBW.out
    have hzr := HBW.out.size
    by_cases hlt : k < h.ps.length
    · obtain ⟨c, hx⟩ : ∃ x, h.ps[k]? = some x := ⟨_, List.getElem?_eq_getElem hlt⟩
      have hsn := HNM.out c (List.mem_of_getElem? hx)
      have HX := Lib.hid hx
      have htk : (h.ps.take k).length = k := by rw [List.length_take]; omega
      have htk1 : h.ps.take (k + 1) = h.ps.take k ++ [c] := by
        obtain ⟨h, rfl⟩ := List.getElem?_eq_some_iff.1 hx
        rw [List.take_succ_eq_append_getElem h]
      obtain ⟨A2, cap2, rfl, hrd, hA2⟩ := own_rd1 (xs := (h.ps.take k).map Prt.name) (enc := Value.string) (by rw [List.length_map, htk]; exact OWN.out)
      clear hA2
      rw [List.length_map, htk] at OWN ⊢
      have ht := fresh_any A2 ((h.ps.take k).map Prt.name) wr.heap.size cap2 c.name wr hsn (by rw [List.length_map, htk]; unfold maxLen; omega) hrd (Nat.le_refl _)
      rw [List.length_map, htk] at ht
      have he : partE h.ps k = if freshE ((h.ps.take k).map Prt.name) c.name = 0 then rangeE 0 100000 c.lo c.hi else freshE ((h.ps.take k).map Prt.name) c.name := by unfold partE; rw [hx]
      obtain ⟨T, hT⟩ : ∃ T, freshE ((h.ps.take k).map Prt.name) c.name = T := ⟨_, rfl⟩
      rw [hT] at he ht
      obtain ⟨b, off, rfl, _, e0, e1, e2⟩ := prtAt (HHW.out.ps.below HBW.out hBw) hx
      obtain ⟨name, clo, chi⟩ := c
      simp only at e0 e1 e2 ht hsn he
      have HT := Lib.hid ht
      have HTK := Lib.hid htk1
      have hkz : (k : Int) < (h.ps.length : Int) := by omega
      have hk0 : (0 : Int) ≤ (k : Int) := by omega
      clear htk htk1 hrd ht hT hx
      go_wp2_with fail
      refine HT.out.mono ?_
      rintro e w3 ⟨rfl, hb3⟩
      have OWN3 := Lib.hid (own_below OWN.out hb3)
      have HB3 := Lib.hid (belowT HBW.out hb3)
      have d0 := keepC hb3 e0
      have d1 := keepC hb3 e1
      have d2 := keepC hb3 e2
      have hz3 := hb3.size
      clear p0 p1 p2 p3 p4 e0 e1 e2
      obtain ⟨p0, p1, p2, p3, p4⟩ := HC1.out _ HB3.out
      have hnew : ∀ j u, [Value.string name][j]? = some u → (w3.alloc (.cells #[.string name] 9)).cell? ((⟨w3.heap.size, 0, none⟩ : Addr).add j) = some u := one_new _ _ _
      have HNW := Lib.hid hnew
      clear hb3 hnew OWN p1 p2 p3 p4 d1 d2
      go_wp2_with (at_builtin; refine wpList_append_own _ rfl _ _ 96 rfl w1.heap.size 9 i0 (.string ⟨#[]⟩) 1 16 Try.underlying96 hi0 hz0 hz1 hz2 rfl (by decide) _ _ _ rfl (OWN3.out.alloc _) ⟨w3.heap.size, 0, none⟩ 1 1 [.string name] rfl rfl ?c1 ?c2 ?c3 ?c4 ?c5 ?_)
      case c1 => exact HNW.out
      case c2 => simp [Value.oneCell']
      case c3 => unfold maxLen; omega
      case c4 => omega
      case c5 => simp; omega
      intro v' w4 hown' hgrow _
      have hB4 : Below w1.heap.size w1 w4 := grownB (OWN3.out.alloc _) hgrow (Nat.le_refl _) (belowA HB3.out _)
      have HO' := Lib.hid hown'
      have HB4 := Lib.hid hB4
      clear hgrow hown' p0 d0 hB4
      by_cases hT0 : T = 0
      · subst hT0
        rw [if_pos rfl] at he
        have hrg := fun W => range_any 0 100000 clo chi W
        obtain ⟨V, hV⟩ : ∃ V, rangeE 0 100000 clo chi = V := ⟨_, rfl⟩
        rw [hV] at he hrg
        have HRG := Lib.hid hrg
        have HE2 := Lib.hid he
        obtain ⟨p0, p1, p2, p3, p4⟩ := HC1.out _ HB4.out
        obtain ⟨b', off', he', _, e0, e1, e2⟩ := prtAt (HHW.out.ps.below HB4.out hBw) HX.out
        injection he' with he'
        injection he' with he1 he2
        subst he1 he2
        simp only at e0 e1 e2
        clear he hrg hV p1 p2 p3 p4 e0
        go_wp2_with fail
        refine (HRG.out _).mono ?_
        rintro e w5 ⟨rfl, hb5⟩
        have HO5 := Lib.hid (own_below HO'.out hb5)
        have HB5 := Lib.hid (belowT HB4.out hb5)
        clear hb5 p0 e1 e2 HO' HB4
        by_cases hV0 : V = 0
        · subst hV0
          go_wp2_with fail
          go_roundw
          case rel => exact ⟨k + 1, v', by omega, by go_num, rfl, Lib.hid (by have h := HO5.out; rw [HTK.out]; simpa using h), HB5, Lib.hid (firstBad_succ HN.out HE2.out)⟩
          case measure => simp [intOf]; omega
        · have hne : (V != 0) = true := by simpa using hV0
          have HV0 := Lib.hid hV0
          clear hV0
          go_wp2_with fail
          go_ret3
          exact ⟨by rw [HFIN.out _ HRR.out, firstBad_at HN.out (by rw [HE2.out]; exact HV0.out) hlt, HE2.out]; rfl, belowT HB0.out (belowT HBW1.out HB5.out)⟩
      · have hne : (T != 0) = true := by simpa using hT0
        have hne2 : (T == 0) = false := by simpa using hT0
        rw [if_neg hT0] at he
        have HE2 := Lib.hid he
        have HT0 := Lib.hid hT0
        clear hT0 he
        go_wp2_with fail
        go_ret3
        exact ⟨by rw [HFIN.out _ HRR.out, firstBad_at HN.out (by rw [HE2.out]; exact HT0.out) hlt, HE2.out]; rfl, belowT HB0.out (belowT HBW1.out HB4.out)⟩
    · obtain rfl : k = h.ps.length := by omega
      have HNP := HN
      go_wp2_with fail
      clear p0 p1 p2 p3 p4
      obtain ⟨wq, hwq⟩ : ∃ wq : World, wq = wr := ⟨_, rfl⟩
      have HBQ : Hid (Below w1.heap.size w1 wq) := Lib.hid (by rw [hwq]; exact HBW.out)
      subst hwq
      go_loopw [8] (fun vi wr => ∃ q : Nat, q ≤ h.js.length ∧ vi = .int .i64 q ∧ Hid (Below w1.heap.size w1 wr) ∧ Hid (firstBad (jointE h.ps.length h.js) q = none)) (fun vi _ => h.js.length - (intOf vi).toNat)
      case atStart => exact ⟨0, Nat.zero_le _, rfl, HBQ, Lib.hid rfl⟩
      case round =>
        obtain ⟨q, hq, rfl, HBW2, HN2⟩ := hrel
        obtain ⟨p0, p1, p2, p3, p4⟩ := HC1.out _ HBW2.out
        by_cases hlt2 : q < h.js.length
        · have hjt := joint_any h A J B cap capJ q wr (HHW.out.below HBW2.out hBw) hlt2 (Nat.le_trans hBw HBW2.out.size)
          obtain ⟨V, hV⟩ : ∃ V, jointE h.ps.length h.js q = V := ⟨_, rfl⟩
          rw [hV] at hjt
          have HJT := Lib.hid hjt
          have HV := Lib.hid hV
          have hkz : (q : Int) < (h.js.length : Int) := by omega
          have hk0 : (0 : Int) ≤ (q : Int) := by omega
          clear hjt hV
          go_wp2_with fail
          refine HJT.out.mono ?_
          rintro e w5 ⟨rfl, hb5⟩
          have HB5 := Lib.hid (belowT HBW2.out hb5)
          clear hb5 p0 p1 p2 p3 p4
          by_cases hV0 : V = 0
          · subst hV0
            go_wp2_with fail
            go_roundw
            case rel => exact ⟨q + 1, by omega, by go_num, HB5, Lib.hid (firstBad_succ HN2.out HV.out)⟩
            case measure => simp [intOf]; omega
          · have hne : (V != 0) = true := by simpa using hV0
            have HV0 := Lib.hid hV0
            clear hV0
            go_wp2_with fail
            go_ret3
            exact ⟨by rw [HFIN.out _ HRR.out, HNP.out]; simp only; rw [firstBad_at HN2.out (by rw [HV.out]; exact HV0.out) hlt2, HV.out]; rfl, belowT HB0.out (belowT HBW1.out HB5.out)⟩
        · obtain rfl : q = h.js.length := by omega
          go_wp2_with fail
          go_ret3
          exact ⟨by rw [HFIN.out _ HRR.out, HNP.out]; simp only; rw [HN2.out]; rfl, belowT HB0.out (belowT HBW1.out HBW2.out)⟩
end Go.Proofs.Ytojgdallodmanaa
