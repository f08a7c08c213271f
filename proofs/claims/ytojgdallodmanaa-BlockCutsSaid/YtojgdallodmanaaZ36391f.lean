/- The reference's Cut at any numbers, Light, bad and Bad: the walks (printed by mkK25.py). BlockCuts: the plain law and the walk (printed by mkCuts.py). -/
import Derived.Test.YtojgdallodmanaaZ654d27
import Derived.Test.YtojgdallodmanaaZ4af5f3
import Derived.Test.YtojgdallodmanaaYK16
import Derived.Test.YtojgdallodmanaaYK26
namespace Go.Proofs.Ytojgdallodmanaa
open Go.RowKit

/-! Numbers that are a cut. -/
theorem grow_of {q : List Nat} (h : ∀ k x, q[k]? = some x → x ≤ manyTo (pad q) k) : grow 0 q = true := by
  have key : ∀ d k, k + d = q.length → grow (manyTo (pad q) k) (q.drop k) = true := by
    intro d
    induction d with
    | zero => intro k hk; rw [List.drop_of_length_le (by omega)]; rfl
    | succ d ih =>
      intro k hk
      have hx := List.getElem?_eq_getElem (show k < q.length by omega)
      rw [List.drop_eq_getElem_cons (by omega), grow, Bool.and_eq_true, decide_eq_true_eq]
      have h2 := ih (k + 1) (by omega)
      rw [manyTo, pad_at hx] at h2
      exact ⟨h k _ hx, h2⟩
  have := key q.length 0 (by omega)
  simpa [manyTo] using this
theorem cutOk_at {nums : List Int} {m : Nat} (h : cutOkTo nums m = true) {k : Nat} {x : Int} (hk : k < m) (hx : nums[k]? = some x) : 0 ≤ x ∧ x ≤ (manyTo (cut8 nums) k : Int) := by
  have := cutOkTo_mono (k + 1) (by omega) h
  rw [cutOkTo, hx, Bool.and_eq_true] at this
  simpa using this.2
theorem cutOk_ints {nums : List Int} (h : cutOkTo nums nums.length = true) : nums = intsOf (nums.map Int.toNat) := by
  apply List.ext_getElem?
  intro k
  rw [List.getElem?_map, List.getElem?_map]
  cases hx : nums[k]? with
  | none => rfl
  | some x =>
    have := (cutOk_at h (List.getElem?_eq_some_iff.1 hx).1 hx).1
    simp only [Option.map_some, Option.some.injEq]
    omega
theorem cutOk_grow {nums : List Int} (h : cutOkTo nums nums.length = true) : grow 0 (nums.map Int.toNat) = true := by
  refine grow_of fun k x hx => ?_
  rw [List.getElem?_map] at hx
  cases hy : nums[k]? with
  | none => rw [hy] at hx; cases hx
  | some y =>
    rw [hy] at hx
    injection hx with hx
    have h1 := cutOk_at h (List.getElem?_eq_some_iff.1 hy).1 hy
    have e := cut8_nats (nums.map Int.toNat)
    rw [← cutOk_ints h] at e
    rw [← e]
    omega

noncomputable def cutE (h : Hul) (nums : List Int) : Int := if nums.length = h.ps.length then (if cutOkTo nums nums.length = true then 0 else 6) else 3
set_option maxRecDepth 100000 in
set_option maxHeartbeats 2000000 in
theorem cut48_gen (h : Hul) (A J : Option Addr) (B cap capJ : Nat) (Q : Option Addr) (nums : List Int) (c2 : Nat) (w : World) (hn8 : h.ps.length ≤ 8) (hnl : nums.length ≤ maxLen) (hR : Rd1 iv w B Q nums) (hB : B ≤ w.heap.size) :
    Calls Try.prog 48 #[hv h A cap J capJ, .slice Q nums.length c2] w fun e w' => e = .returned (iv (cutE h nums)) ∧ Below w.heap.size w w' := by
  obtain ⟨W1, hW1, hb0, hzz, p0, p1, p2, p3, p4⟩ := hulBox w h A cap J capJ
  have HB0 := Lib.hid hb0
  have HR := Lib.hid (hR.below hb0 hB)
  have hmx : nums.length ≤ 9223372036854775807 := by unfold maxLen at hnl; omega
  by_cases hl : nums.length = h.ps.length
  case neg =>
    have hce : cutE h nums = 3 := by unfold cutE; rw [if_neg hl]
    rw [hce]
    have hne : ((nums.length : Int) != (h.ps.length : Int)) = true := by rw [bne_iff_ne]; omega
    clear hb0 hR hzz hce
    go_enter Try.func48, Try.ntmps48
    go_wp2_with fail
    go_ret
    exact ⟨rfl, HB0.out⟩
  have hne : ((nums.length : Int) != (h.ps.length : Int)) = false := by rw [hl]; simp
  have hq8 : nums.length ≤ 8 := by omega
  have HYES : Hid (cutOkTo nums nums.length = true → cutE h nums = 0) := Lib.hid fun e => by unfold cutE; rw [if_pos hl, if_pos e]
  have HNO : Hid (cutOkTo nums nums.length = false → cutE h nums = 6) := Lib.hid fun e => by unfold cutE; rw [if_pos hl, if_neg (by rw [e]; decide)]
  obtain ⟨CE, hCE⟩ : ∃ c, cutE h nums = c := ⟨_, rfl⟩
  rw [hCE] at HYES HNO ⊢
  have HL := Lib.hid hl
  clear hb0 hR hzz hCE hl
  go_enter Try.func48, Try.ntmps48
  go_wp2_with fail
  clear hne hW1 p0 p1 p2 p3 p4
  go_loopw [5, 6] (fun vn vi wr => ∃ k : Nat, k ≤ nums.length ∧ vi = .int .i64 k ∧ vn = .int .i64 (manyTo (cut8 nums) k) ∧ Hid (cutOkTo nums k = true) ∧ Hid (Below W1.heap.size W1 wr)) (fun _ vi _ => nums.length - (intOf vi).toNat)
  case atStart => exact ⟨0, Nat.zero_le _, rfl, rfl, Lib.hid rfl, Lib.hid (belowR _)⟩
  case round =>
    obtain ⟨k, hk, rfl, rfl, HOK, HBR⟩ := hrel
    by_cases hlt : k < nums.length
    · obtain ⟨x, hx⟩ : ∃ x, nums[k]? = some x := ⟨_, List.getElem?_eq_getElem hlt⟩
      obtain ⟨b1, o1, rfl, hb1, c1⟩ := (HR.out.below HBR.out (Nat.le_trans hB HB0.out.size)) k x hx
      have hmk := many_le_k k hk HOK.out
      have E2 := Lib.hid (manyTo_step (cut8_at nums hx))
      have hstep : cutOkTo nums (k + 1) = decide (0 ≤ x ∧ x ≤ (manyTo (cut8 nums) k : Int)) := by rw [cutOkTo, HOK.out, hx, Bool.true_and]
      obtain ⟨m, hm⟩ : ∃ m, manyTo (cut8 nums) k = m := ⟨_, rfl⟩
      rw [hm] at hmk E2 hstep ⊢
      clear hx hm
      by_cases hin : 0 ≤ x ∧ x ≤ (m : Int)
      · have HIN := Lib.hid (show inB 0 (m : Int) x = true by unfold inB; simp; omega)
        have HO2 : Hid (cutOkTo nums (k + 1) = true) := Lib.hid (by rw [hstep, decide_eq_true hin])
        clear hstep
        obtain ⟨y, rfl⟩ : ∃ y : Nat, x = y := ⟨x.toNat, by omega⟩
        rw [Int.toNat_natCast] at E2
        have hym : y ≤ m := by omega
        clear hin
        rcases Nat.lt_or_ge y m with hxe | hxe
        · have E3 : Hid (manyTo (cut8 nums) (k + 1) = m) := Lib.hid (by rw [E2.out]; omega)
          have hce : ((y : Int) == (m : Int)) = false := by simp; omega
          go_wp2_with (go_at_call 59; refine (in_b HIN.out _).mono ?_; rintro e w' ⟨rfl, rfl⟩)
          go_roundw
          case rel => exact ⟨k + 1, by omega, by go_num, by rw [E3.out], HO2, HBR⟩
          case measure => simp [intOf]; omega
        · obtain rfl : y = m := by omega
          have hce : ((y : Int) == (y : Int)) = true := by simp
          have E3 : Hid (manyTo (cut8 nums) (k + 1) = y + 1) := Lib.hid (by rw [E2.out]; omega)
          clear hym hxe
          go_wp2_with (go_at_call 59; refine (in_b HIN.out _).mono ?_; rintro e w' ⟨rfl, rfl⟩)
          go_roundw
          case rel => exact ⟨k + 1, by omega, by go_num, by rw [E3.out]; go_num, HO2, HBR⟩
          case measure => simp [intOf]; omega
      · have HIN := Lib.hid (show inB 0 (m : Int) x = false by unfold inB; simp; omega)
        have HC : Hid (CE = 6) := Lib.hid (HNO.out (cutOkTo_false (k := k + 1) (by omega) (by rw [hstep, decide_eq_false hin])))
        clear hstep
        go_wp2_with (go_at_call 59; refine (in_b HIN.out _).mono ?_; rintro e w' ⟨rfl, rfl⟩)
        go_ret
        exact ⟨by rw [HC.out]; rfl, belowT HB0.out HBR.out⟩
    · obtain rfl : k = nums.length := by omega
      have HC : Hid (CE = 0) := Lib.hid (HYES.out HOK.out)
      go_wp2_with fail
      go_ret
      exact ⟨by rw [HC.out]; rfl, belowT HB0.out HBR.out⟩

set_option maxRecDepth 100000 in
set_option maxHeartbeats 2000000 in
theorem light112_any (h : Hul) (A J : Option Addr) (B cap capJ : Nat) (AL : Option Addr) (l : List Wgh) (capL s : Nat) (w : World)
    (hH : HulRd w B h A cap J capJ) (hL : RdN 3 encWgh w B AL l) (hp : openPre h l = 0) (hf : Feas h l) (hs : s < 2 ^ h.ps.length) (hB : B ≤ w.heap.size) :
    Calls Try.prog 112 #[hv h A cap J capJ, .slice AL l.length capL, .int .i64 s] w fun e w' => e = .returned (.bool (decide (mostRef h l s * h.shi ≤ 1000 * h.winch))) ∧ Below w.heap.size w w' := by
  obtain ⟨W1, hW1, hb0, hzz, p0, p1, p2, p3, p4⟩ := hulBox w h A cap J capJ
  have HKB : Hid (∀ W, Below W1.heap.size W1 W → W.cell? ⟨w.heap.size, 0, none⟩ = some (.slice A h.ps.length cap) ∧ W.cell? ⟨w.heap.size, 1, none⟩ = some (.slice J h.js.length capJ) ∧ W.cell? ⟨w.heap.size, 2, none⟩ = some (.int .i64 h.slo) ∧ W.cell? ⟨w.heap.size, 3, none⟩ = some (.int .i64 h.shi) ∧ W.cell? ⟨w.heap.size, 4, none⟩ = some (.int .i64 h.winch)) := Lib.hid fun W hb => ⟨keepC hb p0, keepC hb p1, keepC hb p2, keepC hb p3, keepC hb p4⟩
  have HB0 := Lib.hid hb0
  have hk := hulOk (openPre_zero hp).1
  have hwo := wghsOk hp
  have hr := pre_right hp
  have hs1 := hr.s1
  have hs2 := hr.s2
  have hs3 := hr.s3
  have hw1 := hr.w1
  have hw2 := hr.w2
  have hm := mostRef_nn hp hf hs
  have hc72 : ∀ V, Below W1.heap.size W1 V → Calls Try.prog 72 #[hv h A cap J capJ, .slice AL l.length capL, .int .i64 s] V fun e w' => e = .returned (iv (mostRef h l s)) ∧ Below V.heap.size V w' := fun V hb => greatest_any h A J B cap capJ AL l capL s V (hH.below (belowT hb0 hb) hB) hk (hL.below (belowT hb0 hb) hB) hwo hs (Nat.le_trans hB (belowT hb0 hb).size)
  obtain ⟨V, hV⟩ : ∃ V, mostRef h l s = V := ⟨_, rfl⟩
  rw [hV] at hm hc72 ⊢
  have HC72 := Lib.hid hc72
  obtain ⟨hm0, hm1⟩ := hm
  have hx0 : 0 ≤ V * h.shi := Int.mul_nonneg hm0 (by omega)
  have hx1 : V * h.shi ≤ 800000 * 2000 := Int.mul_le_mul hm1 hs3 (by omega) (by omega)
  obtain ⟨X, hX⟩ : ∃ X, V * h.shi = X := ⟨_, rfl⟩
  rw [hX] at hx0 hx1
  have hwx : IntKind.i64.wrap (V * h.shi) = X := by rw [hX, IntKind.wrap_i64]; omega
  have hwy : IntKind.i64.wrap (1000 * h.winch) = 1000 * h.winch := by rw [IntKind.wrap_i64]; omega
  rw [hX]
  clear hX hV hr hwo hk hp hf hc72 hb0 hH hL hzz hB hs
  go_enter Try.func112, Try.ntmps112
  go_wp2_with fail
  clear hW1 p0 p1 p2 p3 p4
  have HBD0 := Lib.hid (belowDq (belowR W1))
  go_region_held3 (fun W => W.cell? ⟨w.heap.size, 0, none⟩ = some (.slice A h.ps.length cap) ∧ W.cell? ⟨w.heap.size, 1, none⟩ = some (.slice J h.js.length capJ) ∧ W.cell? ⟨w.heap.size, 2, none⟩ = some (.int .i64 h.slo) ∧ W.cell? ⟨w.heap.size, 3, none⟩ = some (.int .i64 h.shi) ∧ W.cell? ⟨w.heap.size, 4, none⟩ = some (.int .i64 h.winch)) (first | exact HKB.out _ HBD0.out | exact HKB.out _ HB4.out) (((first | (go_at_call 72; ((with_reducible refine (HC72.out _ HBD0.out).mono ?_); rintro e w4 ⟨rfl, hb4⟩; have HB4 := Lib.hid (belowT HBD0.out hb4); clear hb4)))))
  go_wp2_with fail
  go_ret
  exact ⟨rfl, belowT HB0.out HB4.out⟩

/-- The parts of a set hang together, and the winch can pull them. -/
noncomputable def goodR (h : Hul) (l : List Wgh) (s : Nat) : Bool := hangsB h.js s && decide (mostRef h l s * h.shi ≤ 1000 * h.winch)
noncomputable def badR (h : Hul) (l : List Wgh) (S : List Nat) : Int := match (List.range S.length).find? (fun i => !goodR h l (S[i]?.getD 0)) with
  | some i => (i : Int)
  | none => -1
theorem badR_none {h : Hul} {l : List Wgh} {S : List Nat} (hh : ∀ i, i < S.length → goodR h l (S[i]?.getD 0) = true) : badR h l S = -1 := by
  unfold badR
  rw [List.find?_range_eq_none.2 (fun i hi => by rw [hh i hi]; rfl)]
theorem badR_some {h : Hul} {l : List Wgh} {S : List Nat} {i : Nat} (hi : i < S.length) (hh : ∀ j, j < i → goodR h l (S[j]?.getD 0) = true) (hb : goodR h l (S[i]?.getD 0) = false) : badR h l S = (i : Int) := by
  unfold badR
  rw [List.find?_range_eq_some.2 ⟨by rw [hb]; rfl, by simpa using hi, fun j hj => by rw [hh j hj]; rfl⟩]
set_option maxRecDepth 100000 in
set_option maxHeartbeats 4000000 in
theorem bad82_any (h : Hul) (A J : Option Addr) (B cap capJ : Nat) (AL : Option Addr) (l : List Wgh) (capL : Nat) (Q : Option Addr) (q : List Nat) (c2 : Nat) (w : World)
    (hH : HulRd w B h A cap J capJ) (hL : RdN 3 encWgh w B AL l) (hp : openPre h l = 0) (hf : Feas h l) (hq : q.length = h.ps.length) (hg : grow 0 q = true) (hR : Rd1 nv w B Q q) (hB : B ≤ w.heap.size) :
    Calls Try.prog 82 #[hv h A cap J capJ, .slice AL l.length capL, .slice Q q.length c2] w fun e w' => e = .returned (iv (badR h l (rowB q q.length))) ∧ Below w.heap.size w w' := by
  obtain ⟨W1, hW1, hb0, hzz, p0, p1, p2, p3, p4⟩ := hulBox w h A cap J capJ
  have HKB : Hid (∀ W, Below W1.heap.size W1 W → W.cell? ⟨w.heap.size, 0, none⟩ = some (.slice A h.ps.length cap) ∧ W.cell? ⟨w.heap.size, 1, none⟩ = some (.slice J h.js.length capJ) ∧ W.cell? ⟨w.heap.size, 2, none⟩ = some (.int .i64 h.slo) ∧ W.cell? ⟨w.heap.size, 3, none⟩ = some (.int .i64 h.shi) ∧ W.cell? ⟨w.heap.size, 4, none⟩ = some (.int .i64 h.winch)) := Lib.hid fun W hb => ⟨keepC hb p0, keepC hb p1, keepC hb p2, keepC hb p3, keepC hb p4⟩
  have HB0 := Lib.hid hb0
  have hk := hulOk (openPre_zero hp).1
  have hn8 := hk.n8
  have hbl : ∀ V, Below W1.heap.size W1 V → Calls Try.prog 49 #[.slice Q q.length c2] V fun e w' => Below V.heap.size V w' ∧ ∃ A cap, e = .returned (.slice A (rowB q q.length).length cap) ∧ Rd1 nv w' w'.heap.size A (rowB q q.length) := fun V hb => (blocks49_any B Q q c2 V (by omega) hg (hR.below (belowT hb0 hb) hB) (Nat.le_trans hB (belowT hb0 hb).size)).mono fun e w' ⟨h1, A, c, h2, h3⟩ => by
    have hl := rowB_len (show q.length ≤ 8 by omega) hg (Nat.le_refl q.length)
    exact ⟨h1, A, c, by rw [hl]; exact h2, row_nats hl h3⟩
  have hhg : ∀ (s : Nat) V, s < 2 ^ h.ps.length → Below W1.heap.size W1 V → Calls Try.prog 50 #[hv h A cap J capJ, .int .i64 s] V fun e w' => e = .returned (.bool (hangsB h.js s)) ∧ Below V.heap.size V w' := fun s V hs hb => refHangs_any h A J B cap capJ s V (hH.below (belowT hb0 hb) hB) hk.n1 hn8 hk.js hk.j12 hs (Nat.le_trans hB (belowT hb0 hb).size)
  have hlg : ∀ (s : Nat) V, s < 2 ^ h.ps.length → Below W1.heap.size W1 V → Calls Try.prog 112 #[hv h A cap J capJ, .slice AL l.length capL, .int .i64 s] V fun e w' => e = .returned (.bool (decide (mostRef h l s * h.shi ≤ 1000 * h.winch))) ∧ Below V.heap.size V w' := fun s V hs hb => light112_any h A J B cap capJ AL l capL s V (hH.below (belowT hb0 hb) hB) (hL.below (belowT hb0 hb) hB) hp hf hs (Nat.le_trans hB (belowT hb0 hb).size)
  have hlt : ∀ x ∈ rowB q q.length, x < 2 ^ h.ps.length := fun x hx => by
    obtain ⟨j, hj, rfl⟩ := (rowB_mem (by omega) hg).1 hx
    rw [← hq]
    exact blkAt_lt j
  have hl8 : (rowB q q.length).length ≤ 8 := by rw [rowB_len (by omega) hg (Nat.le_refl _)]; have := grow_le_k hg q.length (Nat.le_refl _); omega
  obtain ⟨S, hS⟩ : ∃ S, rowB q q.length = S := ⟨_, rfl⟩
  rw [hS] at hbl hl8 hlt ⊢
  have HBL := Lib.hid hbl
  have HHG := Lib.hid hhg
  have HLG := Lib.hid hlg
  have HLT := Lib.hid hlt
  have HGD : Hid (∀ s, goodR h l s = (hangsB h.js s && decide (mostRef h l s * h.shi ≤ 1000 * h.winch))) := Lib.hid fun _ => rfl
  have HBN : Hid ((∀ i, i < S.length → goodR h l (S[i]?.getD 0) = true) → badR h l S = -1) := Lib.hid badR_none
  have HBS : Hid (∀ i : Nat, i < S.length → (∀ j, j < i → goodR h l (S[j]?.getD 0) = true) → goodR h l (S[i]?.getD 0) = false → badR h l S = (i : Int)) := Lib.hid fun i a b c => badR_some a b c
  obtain ⟨GD, hGD⟩ : ∃ G, goodR h l = G := ⟨_, rfl⟩
  obtain ⟨BD, hBD⟩ : ∃ G, badR h l S = G := ⟨_, rfl⟩
  rw [hGD] at HGD HBN HBS
  rw [hBD] at HBN HBS ⊢
  have hws : w.heap.size < W1.heap.size := lt_of_cell p0
  clear hS hbl hhg hlg hlt hH hL hp hf hg hR hb0 hzz hk hGD hBD hB hq
  go_enter Try.func82, Try.ntmps82
  go_wp2_with fail
  refine (HBL.out _ (belowR W1)).mono ?_
  rintro e w1 ⟨hb1, A1, c1, rfl, hr1⟩
  have HB1 := Lib.hid hb1
  have HR1 := Lib.hid hr1
  clear hb1 hr1 HBL hW1 p0 p1 p2 p3 p4
  go_wp2_with fail
  go_loopw [8] (fun vi wr => ∃ i : Nat, i ≤ S.length ∧ vi = .int .i64 i ∧ Hid (∀ j, j < i → GD (S[j]?.getD 0) = true) ∧ Hid (Below w1.heap.size w1 wr)) (fun vi _ => S.length - (intOf vi).toNat)
  case atStart => exact ⟨0, Nat.zero_le _, rfl, Lib.hid (fun j hj => by omega), Lib.hid (belowR _)⟩
  case round =>
    obtain ⟨i, hi, rfl, HG, HBR⟩ := hrel
    by_cases hlt : i < S.length
    · obtain ⟨x, hx⟩ : ∃ x, S[i]? = some x := ⟨_, List.getElem?_eq_getElem hlt⟩
      have hrr := (HR1.out.below HBR.out (Nat.le_refl _)) i x hx
      obtain ⟨b1, o1, rfl, hb1s, d1⟩ := hrr
      have HD1 : Hid (∀ W, Below wr.heap.size wr W → W.cell? ⟨b1, o1 + i, none⟩ = some (nv x)) := Lib.hid fun W hb => (hb.cell (p := ⟨b1, o1 + i, none⟩) (by have := HBR.out.size; simp only; omega)).trans d1
      have hxl := HLT.out x (List.mem_of_getElem? hx)
      have hgx := HGD.out x
      have hsx := HBS.out i hlt HG.out
      rw [hx] at hsx
      simp only [Option.getD_some] at hsx
      have HNX : Hid (GD x = true → ∀ j, j < i + 1 → GD (S[j]?.getD 0) = true) := Lib.hid fun e j hj => by
        rcases Nat.lt_or_ge j i with h1 | h1
        · exact HG.out j h1
        · obtain rfl : j = i := by omega
          rw [hx]; exact e
      have hhx := fun V hb => HHG.out x V hxl hb
      have hlx := fun V hb => HLG.out x V hxl hb
      obtain ⟨g1, hg1⟩ : ∃ g, hangsB h.js x = g := ⟨_, rfl⟩
      obtain ⟨g2, hg2⟩ : ∃ g, decide (mostRef h l x * h.shi ≤ 1000 * h.winch) = g := ⟨_, rfl⟩
      rw [hg1] at hhx hgx
      rw [hg2] at hlx hgx
      have HHX := Lib.hid hhx
      have HLX := Lib.hid hlx
      have HGX := Lib.hid hgx
      have HSX := Lib.hid hsx
      have hk0 : (0 : Int) ≤ (i : Int) := by omega
      have hkz : (i : Int) < (S.length : Int) := by omega
      have HB2 := Lib.hid (belowT HB1.out HBR.out)
      obtain ⟨p0, p1, p2, p3, p4⟩ := HKB.out _ HB2.out
      clear hx hxl hgx hsx hhx hlx hg1 hg2 hb1s
      have HCS : Hid (∀ W, Below wr.heap.size wr W → W.cell? ⟨w.heap.size, 0, none⟩ = some (.slice A h.ps.length cap) ∧ W.cell? ⟨w.heap.size, 1, none⟩ = some (.slice J h.js.length capJ) ∧ W.cell? ⟨w.heap.size, 2, none⟩ = some (.int .i64 h.slo) ∧ W.cell? ⟨w.heap.size, 3, none⟩ = some (.int .i64 h.shi) ∧ W.cell? ⟨w.heap.size, 4, none⟩ = some (.int .i64 h.winch) ∧ W.cell? ⟨b1, o1 + i, none⟩ = some (nv x)) := Lib.hid fun W hb => ⟨(HKB.out W (belowT HB2.out hb)).1, (HKB.out W (belowT HB2.out hb)).2.1, (HKB.out W (belowT HB2.out hb)).2.2.1, (HKB.out W (belowT HB2.out hb)).2.2.2.1, (HKB.out W (belowT HB2.out hb)).2.2.2.2, HD1.out W hb⟩
      clear p0 p1 p2 p3 p4 d1
      cases g1 with
      | false =>
        go_upto_region 5 with fail
        refine reg82_5f hlt HCS.out (fun W hb => HHX.out W (belowT HB2.out hb)) ?_
        intro u17 u18 u19 u20 u21 u22 u23 u24 u25 u26 u27 u28 u29 u30 u31 u32 wx hbx
        have HB4 := Lib.hid (belowT HB2.out hbx)
        clear hbx
        have HV : Hid (BD = (i : Int)) := Lib.hid (HSX.out (by rw [HGX.out]; rfl))
        go_wp2_with fail
        go_ret
        exact ⟨by rw [HV.out]; rfl, belowT HB0.out HB4.out⟩
      | true =>
        cases g2 with
        | false =>
          go_upto_region 5 with fail
          refine reg82_5t hlt HCS.out (fun W hb => HHX.out W (belowT HB2.out hb)) (fun W hb => HLX.out W (belowT HB2.out hb)) ?_
          intro u17 u18 u19 u20 u21 u22 u23 u24 u25 u26 u27 u28 u29 u30 u31 u32 wx hbx
          have HB50 := Lib.hid hbx
          have HB5 := Lib.hid (belowT HB2.out hbx)
          clear hbx
          have HV : Hid (BD = (i : Int)) := Lib.hid (HSX.out (by rw [HGX.out]; rfl))
          go_wp2_with fail
          go_ret
          exact ⟨by rw [HV.out]; rfl, belowT HB0.out HB5.out⟩
        | true =>
          go_upto_region 5 with fail
          refine reg82_5t hlt HCS.out (fun W hb => HHX.out W (belowT HB2.out hb)) (fun W hb => HLX.out W (belowT HB2.out hb)) ?_
          intro u17 u18 u19 u20 u21 u22 u23 u24 u25 u26 u27 u28 u29 u30 u31 u32 wx hbx
          have HB50 := Lib.hid hbx
          have HB5 := Lib.hid (belowT HB2.out hbx)
          clear hbx
          have HN := Lib.hid (HNX.out (by rw [HGX.out]; rfl))
          have HE := Lib.hid (belowT HBR.out HB50.out)
          go_wp2_with fail
          go_roundw
          case rel => exact ⟨i + 1, by omega, by go_num, HN, HE⟩
          case measure => simp [intOf]; omega
    · obtain rfl : i = S.length := by omega
      have HV := Lib.hid (HBN.out HG.out)
      go_wp2_with fail
      go_ret
      exact ⟨by rw [HV.out]; rfl, belowT HB0.out (belowT HB1.out HBR.out)⟩

noncomputable def badE (h : Hul) (l : List Wgh) (nums : List Int) : Int := if openE h l = 0 then cutE h nums else openE h l
def RefBadPost (h : Hul) (l : List Wgh) (nums : List Int) (w : World) (e : Ending) (w' : World) : Prop :=
  Below w.heap.size w w' ∧ ((badE h l nums ≠ 0 ∧ e = .returned (.tuple #[iv 0, iv (badE h l nums)])) ∨ (badE h l nums = 0 ∧ e = .returned (.tuple #[iv (badR h l (rowB (nums.map Int.toNat) (nums.map Int.toNat).length)), iv 0])))
set_option maxRecDepth 100000 in
set_option maxHeartbeats 4000000 in
theorem bad29_any (h : Hul) (A J : Option Addr) (B cap capJ : Nat) (AL : Option Addr) (l : List Wgh) (capL : Nat) (Q : Option Addr) (nums : List Int) (c2 : Nat) (w : World)
    (hH : HulRd w B h A cap J capJ) (hL : RdN 3 encWgh w B AL l) (hlm : l.length ≤ maxLen) (hnl : nums.length ≤ maxLen) (hR : Rd1 iv w B Q nums) (hB : B ≤ w.heap.size) :
    Calls Try.prog 29 #[hv h A cap J capJ, .slice AL l.length capL, .slice Q nums.length c2] w (RefBadPost h l nums w) := by
  obtain ⟨W1, hW1, hb0, hzz, p0, p1, p2, p3, p4⟩ := hulBox w h A cap J capJ
  have HKB : Hid (∀ W, Below W1.heap.size W1 W → W.cell? ⟨w.heap.size, 0, none⟩ = some (.slice A h.ps.length cap) ∧ W.cell? ⟨w.heap.size, 1, none⟩ = some (.slice J h.js.length capJ) ∧ W.cell? ⟨w.heap.size, 2, none⟩ = some (.int .i64 h.slo) ∧ W.cell? ⟨w.heap.size, 3, none⟩ = some (.int .i64 h.shi) ∧ W.cell? ⟨w.heap.size, 4, none⟩ = some (.int .i64 h.winch)) := Lib.hid fun W hb => ⟨keepC hb p0, keepC hb p1, keepC hb p2, keepC hb p3, keepC hb p4⟩
  have HWC := Lib.hid (weighings_any h A J B cap capJ AL l capL W1 (hH.below hb0 hB) (hL.below hb0 hB) hlm (Nat.le_trans hB hb0.size))
  have HB0 := Lib.hid hb0
  by_cases ho : openE h l = 0
  case neg =>
    have hbe : badE h l nums = openE h l := by unfold badE; rw [if_neg ho]
    have HFN : Hid (∀ e w', Below w.heap.size w w' → e = .returned (.tuple #[iv 0, iv (openE h l)]) → RefBadPost h l nums w e w') := Lib.hid fun e w' a b => ⟨a, .inl ⟨by rw [hbe]; exact ho, by rw [hbe]; exact b⟩⟩
    obtain ⟨E, hE⟩ : ∃ E, openE h l = E := ⟨_, rfl⟩
    rw [hE] at HWC HFN ho
    have hcb : (E == 0) = false := by simpa using ho
    have hcb2 : (E != 0) = true := by simpa using ho
    clear hE hbe hb0 hH hL hzz hlm
    go_enter Try.func29, Try.ntmps29
    go_wp2_with fail
    refine HWC.out.mono ?_
    rintro e w1 ⟨rfl, hb⟩
    have HB1 := Lib.hid hb
    clear hb hW1 p0 p1 p2 p3 p4
    go_wp2_with fail
    go_ret2
    exact HFN.out _ _ (belowT HB0.out HB1.out) rfl
  obtain ⟨hp, hf⟩ := openE_zero_iff ho
  have hn8 := (pre_right hp).n8
  have hc48 : ∀ V, Below W1.heap.size W1 V → Calls Try.prog 48 #[hv h A cap J capJ, .slice Q nums.length c2] V fun e w' => e = .returned (iv (cutE h nums)) ∧ Below V.heap.size V w' := fun V hb => cut48_gen h A J B cap capJ Q nums c2 V hn8 hnl (hR.below (belowT hb0 hb) hB) (Nat.le_trans hB (belowT hb0 hb).size)
  have hbe : badE h l nums = cutE h nums := by unfold badE; rw [if_pos ho]
  rw [ho] at HWC
  by_cases hc : cutE h nums = 0
  case neg =>
    have HFN : Hid (∀ e w', Below w.heap.size w w' → e = .returned (.tuple #[iv 0, iv (cutE h nums)]) → RefBadPost h l nums w e w') := Lib.hid fun e w' a b => ⟨a, .inl ⟨by rw [hbe]; exact hc, by rw [hbe]; exact b⟩⟩
    obtain ⟨E, hE⟩ : ∃ E, cutE h nums = E := ⟨_, rfl⟩
    rw [hE] at hc48 HFN hc
    have HC48 := Lib.hid hc48
    have hcb2 : (E != 0) = true := by simpa using hc
    clear hE hbe hb0 hH hL hzz hlm hp hf ho hc48
    go_enter Try.func29, Try.ntmps29
    go_wp2_with fail
    refine HWC.out.mono ?_
    rintro e w1 ⟨rfl, hb⟩
    have HB1 := Lib.hid hb
    clear hb hW1 p0 p1 p2 p3 p4
    obtain ⟨p0, p1, p2, p3, p4⟩ := HKB.out _ HB1.out
    go_wp2_with fail
    refine (HC48.out _ HB1.out).mono ?_
    rintro e w2 ⟨rfl, hb⟩
    have HB2 := Lib.hid (belowT HB1.out hb)
    clear hb p0 p1 p2 p3 p4
    go_wp2_with fail
    go_ret2
    exact HFN.out _ _ (belowT HB0.out HB2.out) rfl
  have hck : nums.length = h.ps.length ∧ cutOkTo nums nums.length = true := by
    unfold cutE at hc
    split at hc
    · rename_i h1
      split at hc
      · rename_i h2; exact ⟨h1, h2⟩
      · omega
    · omega
  have hq : (nums.map Int.toNat).length = h.ps.length := by rw [List.length_map]; exact hck.1
  have hgr := cutOk_grow hck.2
  have hin := cutOk_ints hck.2
  have hrq : Rd1 nv w B Q (nums.map Int.toNat) := fun i x hx => by
    have h1 : nums[i]? = some (x : Int) := by
      rw [hin, List.getElem?_map, hx]
      rfl
    exact hR i _ h1
  have hc82 : ∀ V, Below W1.heap.size W1 V → Calls Try.prog 82 #[hv h A cap J capJ, .slice AL l.length capL, .slice Q nums.length c2] V fun e w' => e = .returned (iv (badR h l (rowB (nums.map Int.toNat) (nums.map Int.toNat).length))) ∧ Below V.heap.size V w' := fun V hb => by
    have := bad82_any h A J B cap capJ AL l capL Q (nums.map Int.toNat) c2 V (hH.below (belowT hb0 hb) hB) (hL.below (belowT hb0 hb) hB) hp hf hq hgr (hrq.below (belowT hb0 hb) hB) (Nat.le_trans hB (belowT hb0 hb).size)
    rw [List.length_map] at this ⊢
    exact this
  have HFN : Hid (∀ e w', Below w.heap.size w w' → e = .returned (.tuple #[iv (badR h l (rowB (nums.map Int.toNat) (nums.map Int.toNat).length)), iv 0]) → RefBadPost h l nums w e w') := Lib.hid fun e w' a b => ⟨a, .inr ⟨by rw [hbe]; exact hc, b⟩⟩
  obtain ⟨V, hV⟩ : ∃ V, badR h l (rowB (nums.map Int.toNat) (nums.map Int.toNat).length) = V := ⟨_, rfl⟩
  rw [hV] at hc82 HFN
  rw [hc] at hc48
  have HC48 := Lib.hid hc48
  have HC82 := Lib.hid hc82
  clear hbe hb0 hH hL hzz hlm hp hf ho hc48 hc82 hV hrq hin hgr hq hck hc
  go_enter Try.func29, Try.ntmps29
  go_wp2_with fail
  refine HWC.out.mono ?_
  rintro e w1 ⟨rfl, hb⟩
  have HB1 := Lib.hid hb
  clear hb hW1 p0 p1 p2 p3 p4
  obtain ⟨p0, p1, p2, p3, p4⟩ := HKB.out _ HB1.out
  go_wp2_with fail
  refine (HC48.out _ HB1.out).mono ?_
  rintro e w2 ⟨rfl, hb⟩
  have HB2 := Lib.hid (belowT HB1.out hb)
  clear hb p0 p1 p2 p3 p4
  obtain ⟨p0, p1, p2, p3, p4⟩ := HKB.out _ HB2.out
  go_wp2_with fail
  refine (HC82.out _ HB2.out).mono ?_
  rintro e w3 ⟨rfl, hb⟩
  have HB3 := Lib.hid (belowT HB2.out hb)
  clear hb p0 p1 p2 p3 p4
  go_wp2_with fail
  go_ret2
  exact HFN.out _ _ (belowT HB0.out HB3.out) rfl
end Go.Proofs.Ytojgdallodmanaa

namespace Go.Proofs.Ytojgdallodmanaa
open Go.RowKit

theorem find_same {p q : Nat → Bool} : ∀ L : List Nat, (∀ x ∈ L, p x = q x) → L.find? p = L.find? q := by
  intro L
  induction L with
  | nil => intro _; rfl
  | cons x L ih =>
    intro h
    rw [List.find?_cons, List.find?_cons, h x (by simp), ih fun y hy => h y (by simp [hy])]
theorem badAt_ref {h : Hul} {l : List Wgh} {N : List Nd} (hp : openPre h l = 0) (hf : Feas h l) (hN : IsTree h l N) {q : List Nat} (hq : q.length = h.ps.length) (hg : grow 0 q = true) : badAt h N (blkTo (pad q) h.ps.length) (manyTo (pad q) h.ps.length) = badR h l (rowB q q.length) := by
  have hn8 := (pre_right hp).n8
  unfold badAt badR
  rw [rowB_len (by omega) hg (Nat.le_refl _), hq]
  have key : (List.range (manyTo (pad q) h.ps.length)).find? (fun i => !goodS h N ((blkTo (pad q) h.ps.length)[i]?.getD 0)) = (List.range (manyTo (pad q) h.ps.length)).find? (fun i => !goodR h l ((rowB q h.ps.length)[i]?.getD 0)) := by
    refine find_same _ fun i hi => ?_
    rw [List.mem_range, ← hq] at hi
    have e := rowB_at (by omega) hg hi
    rw [← hq, e, Option.getD_some]
    unfold goodS goodR
    show (!(hangsB h.js (blkAt (pad q) q.length i) && decide (mostV h N (blkAt (pad q) q.length i) * h.shi ≤ 1000 * h.winch))) = _
    rw [mostV_ref hp hN hf (by rw [← hq]; exact blkAt_lt i)]
  rw [key] <;> rfl
theorem bad_same (h : Hul) (l : List Wgh) (nums : List Int) : ∃ a E : Int, (∀ (V : World) (e : Ending) (w' : World), BadPost h l nums V e w' → e = .returned (.tuple #[iv a, iv E]) ∧ Below V.heap.size V w') ∧ (∀ (V : World) (e : Ending) (w' : World), RefBadPost h l nums V e w' → e = .returned (.tuple #[iv a, iv E]) ∧ Below V.heap.size V w') := by
  by_cases ho : openE h l = 0
  case neg =>
    have hbe : badE h l nums = openE h l := by unfold badE; rw [if_neg ho]
    refine ⟨0, openE h l, fun V e w' ⟨hb, hx⟩ => ?_, fun V e w' ⟨hb, hx⟩ => ?_⟩
    · rcases hx with ⟨_, rfl⟩ | ⟨h0, _⟩
      · exact ⟨rfl, hb⟩
      · exact absurd h0 ho
    · rw [hbe] at hx
      rcases hx with ⟨_, rfl⟩ | ⟨h0, _⟩
      · exact ⟨rfl, hb⟩
      · exact absurd h0 ho
  have hbe : badE h l nums = cutE h nums := by unfold badE; rw [if_pos ho]
  by_cases hl : nums.length = h.ps.length
  case neg =>
    have hce : cutE h nums = 3 := by unfold cutE; rw [if_neg hl]
    rw [hce] at hbe
    refine ⟨0, 3, fun V e w' ⟨hb, hx⟩ => ?_, fun V e w' ⟨hb, hx⟩ => ?_⟩
    · rcases hx with ⟨h0, _⟩ | ⟨_, _, _, hx⟩
      · exact absurd ho h0
      · rcases hx with ⟨_, rfl⟩ | ⟨h1, _⟩ | ⟨h1, _⟩
        · exact ⟨rfl, hb⟩
        · exact absurd h1 hl
        · exact absurd h1 hl
    · rw [hbe] at hx
      rcases hx with ⟨_, rfl⟩ | ⟨h0, _⟩
      · exact ⟨rfl, hb⟩
      · omega
  cases hok : cutOkTo nums nums.length with
  | false =>
    have hce : cutE h nums = 6 := by unfold cutE; rw [if_pos hl, hok]; rfl
    rw [hce] at hbe
    refine ⟨0, 6, fun V e w' ⟨hb, hx⟩ => ?_, fun V e w' ⟨hb, hx⟩ => ?_⟩
    · rcases hx with ⟨h0, _⟩ | ⟨_, _, _, hx⟩
      · exact absurd ho h0
      · rcases hx with ⟨h1, _⟩ | ⟨_, _, rfl⟩ | ⟨_, h1, _⟩
        · exact absurd hl h1
        · exact ⟨rfl, hb⟩
        · rw [hok] at h1; cases h1
    · rw [hbe] at hx
      rcases hx with ⟨_, rfl⟩ | ⟨h0, _⟩
      · exact ⟨rfl, hb⟩
      · omega
  | true =>
    have hce : cutE h nums = 0 := by unfold cutE; rw [if_pos hl, hok]; rfl
    rw [hce] at hbe
    refine ⟨badR h l (rowB (nums.map Int.toNat) (nums.map Int.toNat).length), 0, fun V e w' ⟨hb, hx⟩ => ?_, fun V e w' ⟨hb, hx⟩ => ?_⟩
    · rcases hx with ⟨h0, _⟩ | ⟨_, hp, hf, hx⟩
      · exact absurd ho h0
      · rcases hx with ⟨h1, _⟩ | ⟨_, h1, _⟩ | ⟨_, _, N, hN, rfl⟩
        · exact absurd hl h1
        · rw [hok] at h1; cases h1
        · have e8 := cut8_nats (nums.map Int.toNat)
          rw [← cutOk_ints hok] at e8
          rw [e8, badAt_ref hp hf hN (by rw [List.length_map]; exact hl) (cutOk_grow hok)]
          exact ⟨rfl, hb⟩
    · rcases hx with ⟨h0, _⟩ | ⟨_, rfl⟩
      · exact absurd hbe h0
      · exact ⟨rfl, hb⟩
/-- The facts of the first of the fewest. -/
def FewFound (h : Hul) (l : List Wgh) (m i : Nat) (q : List Nat) : Prop := m ≤ h.ps.length ∧ (allCuts h.ps.length)[i]? = some q ∧ (∀ m', m' < m → ∀ q' ∈ allCuts h.ps.length, qualR h l m' q' = false) ∧ (∀ j, j < i → ∀ q', (allCuts h.ps.length)[j]? = some q' → qualR h l m q' = false) ∧ qualR h l m q = true
theorem FewFound.uniq {h : Hul} {l : List Wgh} {m i m' i' : Nat} {q q' : List Nat} (a : FewFound h l m i q) (b : FewFound h l m' i' q') : q' = q := by
  obtain ⟨_, a2, a3, a4, a5⟩ := a
  obtain ⟨_, b2, b3, b4, b5⟩ := b
  have hm : m' = m := by
    rcases Nat.lt_trichotomy m m' with h1 | h1 | h1
    · rw [b3 m h1 q (List.mem_of_getElem? a2)] at a5; cases a5
    · exact h1.symm
    · rw [a3 m' h1 q' (List.mem_of_getElem? b2)] at b5; cases b5
  subst hm
  have hi : i' = i := by
    rcases Nat.lt_trichotomy i i' with h1 | h1 | h1
    · rw [b4 i h1 q a2] at a5; cases a5
    · exact h1.symm
    · rw [a4 i' h1 q' b2] at b5; cases b5
  subst hi
  rw [a2] at b2
  injection b2 with b2
  exact b2.symm
theorem FewFound.none {h : Hul} {l : List Wgh} (hno : ¬ ∃ m i q, FewFound h l m i q) : ∀ m', m' ≤ h.ps.length → ∀ q' ∈ allCuts h.ps.length, qualR h l m' q' = false := by
  intro m
  induction m using Nat.strongRecOn with
  | _ m ihm =>
    intro hm q hq
    have hall : ∀ (i : Nat) (q' : List Nat), (allCuts h.ps.length)[i]? = some q' → qualR h l m q' = false := by
      intro i
      induction i using Nat.strongRecOn with
      | _ i ihi =>
        intro q' hq'
        cases hv : qualR h l m q' with
        | false => rfl
        | true => exact absurd ⟨m, i, q', hm, hq', fun m' hm' => ihm m' hm' (by omega), fun j hj q2 hq2 => ihi j hj q2 hq2, hv⟩ hno
    obtain ⟨i, hi⟩ := List.getElem?_of_mem hq
    exact hall i q hi
theorem few_both (h : Hul) (l : List Wgh) : ∃ (FL : List Nat) (FE : Int), FL.length ≤ 8 ∧ (∀ (V : World) (e : Ending) (w' : World), FewestPost h l V e w' → Below V.heap.size V w' ∧ ∃ A c, e = .returned (.tuple #[.slice A FL.length c, iv FE]) ∧ Rd1 nv w' w'.heap.size A FL) ∧ (∀ (V : World) (e : Ending) (w' : World), FewRefPost h l V e w' → Below V.heap.size V w' ∧ ∃ A c, e = .returned (.tuple #[.slice A FL.length c, iv FE]) ∧ Rd1 nv w' w'.heap.size A FL) := by
  by_cases ho : openE h l = 0
  case neg =>
    refine ⟨[], openE h l, by simp, fun V e w' ⟨hb, hx⟩ => ?_, fun V e w' ⟨hb, hx⟩ => ?_⟩
    · rcases hx with ⟨_, rfl⟩ | ⟨h0, _⟩
      · exact ⟨hb, none, 0, rfl, Rd1.nil⟩
      · exact absurd h0 ho
    · rcases hx with ⟨_, rfl⟩ | ⟨h0, _⟩
      · exact ⟨hb, none, 0, rfl, Rd1.nil⟩
      · exact absurd h0 ho
  obtain ⟨hp, hf⟩ := openE_zero_iff ho
  have hr := pre_right hp
  have hn8 := hr.n8
  have hn1 := hr.n1
  have conv : ∀ N, IsTree h l N → ∀ m, ∀ q ∈ allCuts h.ps.length, qualB h N m q = qualR h l m q := fun N hN m q hq => qual_ref hp hf hN hq m
  by_cases hex : ∃ m i q, FewFound h l m i q
  · obtain ⟨m, i, q, hF⟩ := hex
    have hql := (allCuts_mem.1 (List.mem_of_getElem? hF.2.1)).1
    refine ⟨q, 0, by omega, fun V e w' hpost => ?_, fun V e w' ⟨hb, hx⟩ => ?_⟩
    · obtain ⟨hb, N, q', E, A, c, hN, rfl, hrd, _, _, hc⟩ := fewCase ho hpost
      have hff := few_found (h := h) (N := N) hF.1 hF.2.1 (fun m' hm' q' hq' => by rw [conv N hN m' q' hq']; exact hF.2.2.1 m' hm' q' hq') (fun j hj q' hq' => by rw [conv N hN m q' (List.mem_of_getElem? hq')]; exact hF.2.2.2.1 j hj q' hq') (by rw [conv N hN m q (List.mem_of_getElem? hF.2.1)]; exact hF.2.2.2.2)
      rw [hff] at hc
      rcases hc with ⟨_, h1, _⟩ | ⟨rfl, _, _, h2, _⟩
      · have := hF.1
        simp only at h1
        omega
      · have hqq : q' = q := by rw [h2, ← hql, pad_take]
        subst hqq
        exact ⟨hb, A, c, rfl, hrd⟩
    · rcases hx with ⟨h0, _⟩ | ⟨_, hx⟩
      · exact absurd ho h0
      · rcases hx with ⟨m', i', q', A, c, a1, a2, a3, a4, a5, rfl, hrd⟩ | ⟨h1, _⟩
        · have hqq := hF.uniq ⟨a1, a2, a3, a4, a5⟩
          subst hqq
          exact ⟨hb, A, c, rfl, hrd⟩
        · have h5 := hF.2.2.2.2
          rw [h1 m hF.1 q (List.mem_of_getElem? hF.2.1)] at h5
          cases h5
  · have hlost := FewFound.none hex
    refine ⟨[], 9, by simp, fun V e w' hpost => ?_, fun V e w' ⟨hb, hx⟩ => ?_⟩
    · obtain ⟨hb, N, q', E, A, c, hN, rfl, hrd, _, _, hc⟩ := fewCase ho hpost
      have hl := few_lost (h := h) (N := N) hn1 fun m' _ h2 q' hq' => by rw [conv N hN m' q' hq']; exact hlost m' h2 q' hq'
      rcases hc with ⟨rfl, _, rfl⟩ | ⟨_, h2, _⟩
      · exact ⟨hb, A, c, rfl, hrd⟩
      · omega
    · rcases hx with ⟨h0, _⟩ | ⟨_, hx⟩
      · exact absurd ho h0
      · rcases hx with ⟨m', i', q', A, c, a1, a2, a3, a4, a5, _⟩ | ⟨_, rfl⟩
        · exact absurd ⟨m', i', q', a1, a2, a3, a4, a5⟩ hex
        · exact ⟨hb, none, 0, rfl, Rd1.nil⟩

set_option maxRecDepth 100000 in
set_option maxHeartbeats 8000000 in
theorem cutsLaw_any (h : Hul) (A J : Option Addr) (cap capJ : Nat) (AL : Option Addr) (l : List Wgh) (capL : Nat) (AN : Option Addr) (nums : List Int) (capN B : Nat) (w : World)
    (hH : HulRd w B h A cap J capJ) (hL : RdN 3 encWgh w B AL l) (hlc : l.length ≤ capL) (hcm : capL ≤ maxLen) (hnc : nums.length ≤ capN) (hncm : capN ≤ maxLen) (hN : Rd1 iv w B AN nums) (hB : B ≤ w.heap.size) :
    Calls Try.prog 5 #[hv h A cap J capJ, .slice AL l.length capL, .slice AN nums.length capN] w fun e w' => e = .returned (.bool true) ∧ Below w.heap.size w w' := by
  obtain ⟨W1, hW1, hb0, hzz, p0, p1, p2, p3, p4⟩ := hulBox w h A cap J capJ
  have HKB : Hid (∀ W, Below W1.heap.size W1 W → W.cell? ⟨w.heap.size, 0, none⟩ = some (.slice A h.ps.length cap) ∧ W.cell? ⟨w.heap.size, 1, none⟩ = some (.slice J h.js.length capJ) ∧ W.cell? ⟨w.heap.size, 2, none⟩ = some (.int .i64 h.slo) ∧ W.cell? ⟨w.heap.size, 3, none⟩ = some (.int .i64 h.shi) ∧ W.cell? ⟨w.heap.size, 4, none⟩ = some (.int .i64 h.winch)) := Lib.hid fun W hb => ⟨keepC hb p0, keepC hb p1, keepC hb p2, keepC hb p3, keepC hb p4⟩
  have hBz : B ≤ W1.heap.size := Nat.le_trans hB hb0.size
  have HH := Lib.hid (hH.below hb0 hB)
  have HL := Lib.hid (hL.below hb0 hB)
  have HN := Lib.hid (hN.below hb0 hB)
  have HB0 := Lib.hid hb0
  have hlm : l.length ≤ maxLen := Nat.le_trans hlc hcm
  have hnl : nums.length ≤ maxLen := Nat.le_trans hnc hncm
  have HAW := Lib.hid awake_any
  obtain ⟨a, E, ha, ha'⟩ := bad_same h l nums
  obtain ⟨FL, FE, hfl, hf1, hf2⟩ := few_both h l
  have h28 : ∀ V, Below W1.heap.size W1 V → Calls Try.prog 28 #[hv h A cap J capJ, .slice AL l.length capL, .slice AN nums.length capN] V fun e w' => e = .returned (.tuple #[iv a, iv E]) ∧ Below V.heap.size V w' := fun V hb => (bad_any h A J B cap capJ AL l capL AN nums capN V (HH.out.below hb hBz) (HL.out.below hb hBz) hlc (HN.out.below hb hBz) hnl (Nat.le_trans hBz hb.size)).mono fun e w' hx => ha V e w' hx
  have h29 : ∀ V, Below W1.heap.size W1 V → Calls Try.prog 29 #[hv h A cap J capJ, .slice AL l.length capL, .slice AN nums.length capN] V fun e w' => e = .returned (.tuple #[iv a, iv E]) ∧ Below V.heap.size V w' := fun V hb => (bad29_any h A J B cap capJ AL l capL AN nums capN V (HH.out.below hb hBz) (HL.out.below hb hBz) hlm hnl (HN.out.below hb hBz) (Nat.le_trans hBz hb.size)).mono fun e w' hx => ha' V e w' hx
  have h30 : ∀ V, Below W1.heap.size W1 V → Calls Try.prog 30 #[hv h A cap J capJ, .slice AL l.length capL] V fun e w' => Below V.heap.size V w' ∧ ∃ A c, e = .returned (.tuple #[.slice A FL.length c, iv FE]) ∧ Rd1 nv w' w'.heap.size A FL := fun V hb => (fewest_any h A J B cap capJ AL l capL V (HH.out.below hb hBz) (HL.out.below hb hBz) hlc (Nat.le_trans hBz hb.size)).mono fun e w' hx => hf1 V e w' hx
  have h31 : ∀ V, Below W1.heap.size W1 V → Calls Try.prog 31 #[hv h A cap J capJ, .slice AL l.length capL] V fun e w' => Below V.heap.size V w' ∧ ∃ A c, e = .returned (.tuple #[.slice A FL.length c, iv FE]) ∧ Rd1 nv w' w'.heap.size A FL := fun V hb => (fewest31_any h A J B cap capJ AL l capL V (HH.out.below hb hBz) (HL.out.below hb hBz) hlm (Nat.le_trans hBz hb.size)).mono fun e w' hx => hf2 V e w' hx
  have hii : ∀ (V : World) (A1 A2 : Option Addr) (c1 c2 : Nat), Rd1 nv V V.heap.size A1 FL → Rd1 nv V V.heap.size A2 FL → Calls Try.prog 27 #[.slice A1 FL.length c1, .slice A2 FL.length c2] V fun e w' => e = .returned (.bool true) ∧ Below V.heap.size V w' := fun V A1 A2 c1 c2 r1 r2 => by
    have hl : (FL.map (fun x : Nat => (x : Int))).length = FL.length := List.length_map ..
    have := ints_any A1 A2 (FL.map (fun x : Nat => (x : Int))) (FL.map (fun x : Nat => (x : Int))) V.heap.size c1 c2 V (nats_ints r1) (nats_ints r2) (by omega) (by omega) (Nat.le_refl _)
    rw [hl] at this
    simpa using this
  have H28 := Lib.hid h28
  have H29 := Lib.hid h29
  have H30 := Lib.hid h30
  have H31 := Lib.hid h31
  have HII := Lib.hid hii
  clear h28 h29 h30 h31 hii ha ha' hf1 hf2 hb0 hH hL hN hlc hcm hnc hncm hlm hnl hzz
  have n1 : (a != a) = false := by simp
  have n2 : (E != E) = false := by simp
  have n3 : (FE == FE) = true := by simp
  go_enter Try.func5, Try.ntmps5
  go_wp2_with fail
  refine (H28.out _ (belowR W1)).mono ?_
  rintro e w2 ⟨rfl, hb⟩
  have HB2 := Lib.hid hb
  clear hb hW1 p0 p1 p2 p3 p4
  obtain ⟨p0, p1, p2, p3, p4⟩ := HKB.out _ HB2.out
  go_wp2_with fail
  refine (H29.out _ HB2.out).mono ?_
  rintro e w3 ⟨rfl, hb⟩
  have HB3 := Lib.hid (belowT HB2.out hb)
  clear hb p0 p1 p2 p3 p4
  obtain ⟨p0, p1, p2, p3, p4⟩ := HKB.out _ HB3.out
  go_wp2_with fail
  refine (H30.out _ HB3.out).mono ?_
  rintro e w4 ⟨hb, A4, c4, rfl, hr4⟩
  have HB4 := Lib.hid (belowT HB3.out hb)
  have HR4 := Lib.hid hr4
  clear hb hr4 p0 p1 p2 p3 p4
  obtain ⟨p0, p1, p2, p3, p4⟩ := HKB.out _ HB4.out
  go_wp2_with fail
  refine (H31.out _ HB4.out).mono ?_
  rintro e w5 ⟨hb, A5, c5, rfl, hr5⟩
  have HB5 := Lib.hid (belowT HB4.out hb)
  have HR4 := Lib.hid ((HR4.out.below hb (Nat.le_refl _)).more hb.size)
  have HR5 := Lib.hid hr5
  clear hb hr5 p0 p1 p2 p3 p4
  go_wp2_with fail
  refine (HII.out _ _ _ _ _ HR4.out HR5.out).mono ?_
  rintro e w6 ⟨rfl, hb⟩
  have HB6 := Lib.hid (belowT HB5.out hb)
  clear hb
  go_wp2_with fail
  refine (HAW.out _).mono ?_
  rintro e w7 ⟨rfl, hb⟩
  have HB7 := Lib.hid (belowT HB6.out hb)
  clear hb
  go_wp2_with fail
  go_ret
  exact ⟨rfl, belowT HB0.out HB7.out⟩
end Go.Proofs.Ytojgdallodmanaa
