/- The reference's Hangs and Block. The reference's Block, weighed, Agrees, all. The reference's filled (printed by mkR8.py). -/
import Derived.Test.YtojgdallodmanaaYR4
import Derived.Test.YtojgdallodmanaaZe9426c
namespace Go.Proofs.Ytojgdallodmanaa
open Go.RowKit

/-- The least part of a set from the k-th on. -/
def lowAt (s k : Nat) : Nat := (s / 2 ^ k * 2 ^ k) &&& (256 - s / 2 ^ k * 2 ^ k)
theorem lowAt_succ : ∀ s : Nat, s < 256 → ∀ k : Nat, k < 8 → lowAt s k = if s.testBit k = true then 2 ^ k else lowAt s (k + 1) := by decide +kernel
theorem lowAt_top {s n : Nat} (hs : s < 2 ^ n) : lowAt s n = 0 := by unfold lowAt; rw [Nat.div_eq_of_lt hs]; simp
theorem lowAt_zero (s : Nat) : lowAt s 0 = s &&& (256 - s) := by unfold lowAt; simp
theorem lowAt_lt {s : Nat} (k : Nat) (hs : s < 256) : lowAt s k < 256 := by
  unfold lowAt
  refine Nat.lt_of_le_of_lt (Nat.le_trans Nat.and_le_left (Nat.div_mul_le_self _ _)) hs
theorem add_bit : ∀ x : Nat, x < 256 → ∀ b : Nat, b < 8 → x.testBit b = false → x + 2 ^ b = x ||| 2 ^ b := by decide +kernel
theorem or_bit : ∀ x : Nat, x < 256 → ∀ b : Nat, b < 8 → x.testBit b = true → x ||| 2 ^ b = x := by decide +kernel
theorem pair_in : ∀ s : Nat, s < 256 → ∀ a : Nat, a < 8 → ∀ b : Nat, b < 8 → ((2 ^ a ||| 2 ^ b) &&& s = 2 ^ a ||| 2 ^ b) = (s.testBit a = true ∧ s.testBit b = true) := by
  intro s hs a ha b hb
  apply propext
  constructor
  · intro h
    have h1 := congrArg (fun x => x.testBit a) h
    have h2 := congrArg (fun x => x.testBit b) h
    simp only [Nat.testBit_and, Nat.testBit_or, Nat.testBit_two_pow_self, Bool.true_or, Bool.or_true, Bool.true_and] at h1 h2
    exact ⟨h1, h2⟩
  · rintro ⟨h1, h2⟩
    apply Nat.eq_of_testBit_eq
    intro i
    simp only [Nat.testBit_and, Nat.testBit_or, Nat.testBit_two_pow]
    by_cases ha : a = i
    · subst ha; simp [h1]
    · by_cases hb : b = i
      · subst hb; simp [h2]
      · simp [ha, hb]
theorem pair_hit (x a b : Nat) : ((2 ^ a ||| 2 ^ b) &&& x ≠ 0) = (x.testBit a = true ∨ x.testBit b = true) := by
  apply propext
  constructor
  · intro h
    cases h1 : x.testBit a with
    | true => exact .inl rfl
    | false =>
      cases h2 : x.testBit b with
      | true => exact .inr rfl
      | false =>
        refine absurd ?_ h
        apply Nat.eq_of_testBit_eq
        intro i
        simp only [Nat.testBit_and, Nat.testBit_or, Nat.testBit_two_pow, Nat.zero_testBit]
        by_cases ha : a = i
        · subst ha; simp [h1]
        · by_cases hb : b = i
          · subst hb; simp [h2]
          · simp [ha, hb]
  · intro h hz
    have e := fun i => congrArg (fun x => x.testBit i) hz
    simp only [Nat.testBit_and, Nat.testBit_or, Nat.testBit_two_pow, Nat.zero_testBit] at e
    rcases h with h | h
    · have := e a; simp [h] at this
    · have := e b; simp [h] at this
section
variable {s x a b : Nat}
theorem hstep_out (hs : s < 256) (ha : a < 8) (hb : b < 8) (h : (s.testBit a && s.testBit b) = false) : hstep s x ((a : Int), (b : Int)) = x := by
  unfold hstep pairN
  simp only [Int.toNat_natCast]
  rw [if_neg]
  rw [pair_in s hs a ha b hb]
  rintro ⟨⟨h1, h2⟩, _⟩
  rw [h1, h2] at h
  cases h
theorem hstep_same (hx : x < 256) (ha : a < 8) (hb : b < 8) (h : x.testBit a = x.testBit b) : hstep s x ((a : Int), (b : Int)) = x := by
  unfold hstep pairN
  simp only [Int.toNat_natCast]
  split
  · rename_i hc
    have h2 := hc.2
    rw [pair_hit] at h2
    have h3 : x.testBit a = true := by
      rcases h2 with h2 | h2
      · exact h2
      · rw [h]; exact h2
    rw [← Nat.or_assoc, or_bit x hx a ha h3, or_bit x hx b hb (by rw [← h]; exact h3)]
  · rfl
theorem hstep_left (hs : s < 256) (hx : x < 256) (ha : a < 8) (hb : b < 8) (h1 : s.testBit a = true) (h2 : s.testBit b = true) (h3 : x.testBit a = true) (h4 : x.testBit b = false) : hstep s x ((a : Int), (b : Int)) = x + 2 ^ b := by
  unfold hstep pairN
  simp only [Int.toNat_natCast]
  rw [if_pos, ← Nat.or_assoc, or_bit x hx a ha h3, add_bit x hx b hb h4]
  rw [pair_in s hs a ha b hb, pair_hit]
  exact ⟨⟨h1, h2⟩, .inl h3⟩
theorem hstep_right (hs : s < 256) (hx : x < 256) (ha : a < 8) (hb : b < 8) (h1 : s.testBit a = true) (h2 : s.testBit b = true) (h3 : x.testBit a = false) (h4 : x.testBit b = true) : hstep s x ((a : Int), (b : Int)) = x + 2 ^ a := by
  unfold hstep pairN
  simp only [Int.toNat_natCast]
  rw [if_pos, Nat.or_comm (2 ^ a), ← Nat.or_assoc, or_bit x hx b hb h4, add_bit x hx a ha h3]
  rw [pair_in s hs a ha b hb, pair_hit]
  exact ⟨⟨h1, h2⟩, .inr h4⟩
end
theorem hangF_eq (js : List (Int × Int)) (s f m : Nat) : hangF js s (f + 1) m = if hround js s m = m then m == s else hangF js s f (hround js s m) := rfl
def measH (vm va : Value) : Nat := match va with
  | .bool true => 2 * (256 - (intOf vm).toNat) + 1
  | _ => 0

set_option maxRecDepth 100000 in
set_option maxHeartbeats 8000000 in
theorem refHangs_any (h : Hul) (A J : Option Addr) (B cap capJ s : Nat) (w : World) (hH : HulRd w B h A cap J capJ) (hn1 : 1 ≤ h.ps.length) (hn8 : h.ps.length ≤ 8) (hj : JsOk h.ps.length h.js) (hjl : h.js.length ≤ 12) (hs : s < 2 ^ h.ps.length) (hB : B ≤ w.heap.size) :
    Calls Try.prog 50 #[hv h A cap J capJ, .int .i64 s] w fun e w' => e = .returned (.bool (hangsB h.js s)) ∧ Below w.heap.size w w' := by
  obtain ⟨W1, hW1, hb0, hzz, p0, p1, p2, p3, p4⟩ := hulBox w h A cap J capJ
  have hs256 : s < 256 := lt256 hn8 hs
  have HLT := Lib.hid (lowAt_top hs)
  have HLS := Lib.hid (lowAt_succ s hs256)
  have HLL := Lib.hid (fun k => lowAt_lt k hs256)
  have hst : hangsB h.js s = hangF h.js s 257 (lowAt s 0) := by rw [lowAt_zero]; rfl
  obtain ⟨R, hR0⟩ : ∃ R, hangsB h.js s = R := ⟨_, rfl⟩
  rw [hR0] at hst ⊢
  have HST := Lib.hid hst.symm
  have HJ := Lib.hid hj
  have HR := Lib.hid (hH.js.below hb0 hB)
  have HC : Hid (∀ W, Below W1.heap.size W1 W → W.cell? ⟨w.heap.size, 1, none⟩ = some (.slice J h.js.length capJ)) := Lib.hid fun W hb => keepC hb p1
  have HB0 := Lib.hid hb0
  have hBz := Nat.le_trans hB hb0.size
  have hpm := hH.pm
  have hjm := hH.jm
  have hpl := hH.pl
  unfold maxLen at hpm hjm
  clear hst hR0 hj hH hb0 hs
  go_enter Try.func50, Try.ntmps50
  go_wp2_with fail
  clear hW1 p0 p1 p2 p3 p4
  go_loop [5, 6] (fun vm vi => ∃ k m : Nat, k ≤ h.ps.length ∧ vi = .int .i64 ((k : Int) - 1) ∧ vm = .int .i64 m ∧ Hid (lowAt s k = m)) (fun _ vi => (intOf vi + 1).toNat)
  case atStart => exact ⟨h.ps.length, 0, Nat.le_refl _, by go_num, rfl, HLT⟩
  case round =>
    obtain ⟨k, m, hk, rfl, rfl, HM⟩ := hrel
    have hm := HLL.out k
    rw [HM.out] at hm
    by_cases hlt : 0 < k
    · obtain ⟨q, rfl⟩ : ∃ q, k = q + 1 := ⟨k - 1, by omega⟩
      have e1 : ((q + 1 : Nat) : Int) - 1 = (q : Int) := by omega
      rw [e1]
      have hsu := HLS.out q (by omega)
      have hq0 : (0 : Int) ≤ (q : Int) := by omega
      cases hbit : s.testBit q
      · rw [hbit, HM.out] at hsu
        simp only [Bool.false_eq_true, if_false] at hsu
        have HSU := Lib.hid hsu
        clear hsu
        go_wp2_with (go_at_call 91; refine (has2_any _ _ _ hs256 (by omega)).mono ?_; rintro e w' ⟨rfl, rfl⟩)
        go_round
        case rel => exact ⟨q, m, by omega, by go_num, rfl, HSU⟩
        case measure => simp [intOf]
      · rw [hbit] at hsu
        simp only [if_true] at hsu
        have hp : 2 ^ q ≤ 128 := Nat.pow_le_pow_right (n := 2) (by omega) (show q ≤ 7 by omega)
        have hbi := fun W => bit_any q W (by omega)
        obtain ⟨P, hP⟩ : ∃ P : Nat, 2 ^ q = P := ⟨_, rfl⟩
        rw [hP] at hp hsu hbi
        have HSU := Lib.hid hsu
        have HBI := Lib.hid hbi
        clear hsu hP hbi
        go_wp2_with (first | (go_at_call 91; refine (has2_any _ _ _ hs256 (by omega)).mono ?_; rintro e w' ⟨rfl, rfl⟩) | (go_at_call 47; refine (HBI.out _).mono ?_; rintro e w' ⟨rfl, rfl⟩))
        go_round
        case rel => exact ⟨q, P, by omega, by go_num, rfl, HSU⟩
        case measure => simp [intOf]
    · obtain rfl : k = 0 := by omega
      have e1 : ((0 : Nat) : Int) - 1 = -1 := rfl
      rw [e1]
      rw [HM.out] at HST
      clear HLT HLS HLL HM
      go_wp2_with fail
      obtain ⟨wq, hwq⟩ : ∃ wq : World, wq = W1 := ⟨_, rfl⟩
      have HBQ : Hid (Below W1.heap.size W1 wq) := Lib.hid (by rw [hwq]; exact belowR _)
      rw [← hwq]
      clear hwq
      go_loopw [5, 7] (fun vm va wr => ∃ (m f : Nat) (g : Bool), vm = .int .i64 m ∧ va = .bool g ∧ m < 256 ∧ 257 ≤ m + f ∧ Hid (if g = true then hangF h.js s f m = R else (m == s) = R) ∧ Hid (Below W1.heap.size W1 wr)) (fun vm va _ => measH vm va)
      case atStart => exact ⟨m, 257, true, rfl, rfl, hm, by omega, Lib.hid (by rw [if_pos rfl]; exact HST.out), HBQ⟩
      case round =>
        clear HST
        obtain ⟨m2, f, g, rfl, rfl, hm2, hmf, HG, HBW⟩ := hrel
        cases g
        · have hg := HG.out
          simp only [Bool.false_eq_true, if_false] at hg
          have hg2 : ((m2 : Int) == (s : Int)) = R := by
            rw [← hg, Bool.eq_iff_iff]
            simp only [beq_iff_eq]
            omega
          have HG2 := Lib.hid hg2
          clear hg hg2
          go_wp2_with fail
          go_ret
          exact ⟨by rw [← HG2.out]; rfl, belowT HB0.out HBW.out⟩
        · have hg := HG.out
          simp only [if_true] at hg
          obtain ⟨f, rfl⟩ : ∃ f', f = f' + 1 := ⟨f - 1, by omega⟩
          rw [hangF_eq] at hg
          have HG2 := Lib.hid hg
          have hge := fold_ge s h.js m2
          have hltr := fold_lt hn8 s h.js m2 HJ.out hm2
          have hhr : hround h.js s m2 = h.js.foldl (hstep s) m2 := rfl
          have HHR := Lib.hid hhr
          clear hg HG hhr
          obtain ⟨wa, hwa⟩ : ∃ wa : World, wa = wr := ⟨_, rfl⟩
          have HBA : Hid (Below W1.heap.size W1 wa) := Lib.hid (by rw [hwa]; exact HBW.out)
          rw [← hwa]
          clear hwa HBW
          go_wp2_with fail
          go_loopw [5, 7, 8] (fun vx va vi wr => ∃ (k x : Nat), k ≤ h.js.length ∧ vi = .int .i64 k ∧ vx = .int .i64 x ∧ va = .bool (decide (x ≠ m2)) ∧ x < 256 ∧ m2 ≤ x ∧ Hid ((h.js.take k).foldl (hstep s) m2 = x) ∧ Hid (Below W1.heap.size W1 wr)) (fun _ _ vi _ => h.js.length - (intOf vi).toNat)
          case atStart => exact ⟨0, m2, Nat.zero_le _, rfl, rfl, by simp, hm2, Nat.le_refl _, Lib.hid rfl, HBA⟩
          case round =>
            obtain ⟨k, x, hk, rfl, rfl, rfl, hx, hmx, HX, HBW⟩ := hrel
            have c1 := HC.out _ HBW.out
            by_cases hlt : k < h.js.length
            · obtain ⟨j, hjx⟩ : ∃ j, h.js[k]? = some j := ⟨_, List.getElem?_eq_getElem hlt⟩
              have hjo := HJ.out j (List.mem_of_getElem? hjx)
              have hsn := fold_snoc s h.js m2 k j hjx
              rw [HX.out] at hsn
              obtain ⟨bb, off, rfl, _, d0, d1⟩ := spAt (HR.out.below HBW.out hBz) hjx
              obtain ⟨a, b⟩ := j
              simp only at d0 d1 hjo
              obtain ⟨a, rfl⟩ : ∃ n : Nat, a = n := ⟨a.toNat, by omega⟩
              obtain ⟨b, rfl⟩ : ∃ n : Nat, b = n := ⟨b.toNat, by omega⟩
              have ha8 : a < 8 := by omega
              have hb8 : b < 8 := by omega
              have HSN := Lib.hid hsn
              have hkz : (k : Int) < (h.js.length : Int) := by omega
              have hk0 : (0 : Int) ≤ (k : Int) := by omega
              obtain ⟨AG, hag⟩ : ∃ g, decide (x ≠ m2) = g := ⟨_, rfl⟩
              rw [hag]
              have HAG := Lib.hid hag
              clear hsn hjx hag
              have HH91 : Hid (∀ (s i : Nat) (w : World), s < 256 → i < 8 → Calls Try.prog 91 #[.int .i64 s, .int .i64 i] w fun e w' => e = .returned (.bool (s.testBit i)) ∧ w = w') := Lib.hid fun s i w hs hi => has2_any s i w hs (by omega)
              cases h1 : s.testBit a
              · have hf : (s.testBit a && s.testBit b) = false := by rw [h1]; rfl
                have HNX : Hid ((h.js.take (k + 1)).foldl (hstep s) m2 = x) := Lib.hid (by rw [HSN.out]; exact hstep_out hs256 ha8 hb8 hf)
                go_wp2_with fail
                go_quiet (fail)
                go_wp2_with (go_at_call 91; refine (HH91.out _ _ _ (by assumption) (by assumption)).mono ?_; rintro e w' ⟨rfl, rfl⟩)
                go_roundw
                case rel => exact ⟨k + 1, x, by omega, by go_num, rfl, by rw [HAG.out], hx, hmx, HNX, Lib.hid (belowN HBW.out _)⟩
                case measure => simp [intOf]; omega
              cases h2 : s.testBit b
              · have hf : (s.testBit a && s.testBit b) = false := by rw [h1, h2]; rfl
                have HNX : Hid ((h.js.take (k + 1)).foldl (hstep s) m2 = x) := Lib.hid (by rw [HSN.out]; exact hstep_out hs256 ha8 hb8 hf)
                go_wp2_with fail
                go_quiet (fail)
                go_wp2_with (go_at_call 91; refine (HH91.out _ _ _ (by assumption) (by assumption)).mono ?_; rintro e w' ⟨rfl, rfl⟩)
                go_roundw
                case rel => exact ⟨k + 1, x, by omega, by go_num, rfl, by rw [HAG.out], hx, hmx, HNX, Lib.hid (belowN HBW.out _)⟩
                case measure => simp [intOf]; omega
              cases h3 : x.testBit a
              · cases h4 : x.testBit b
                · have hf : x.testBit a = x.testBit b := by rw [h3, h4]
                  have HNX : Hid ((h.js.take (k + 1)).foldl (hstep s) m2 = x) := Lib.hid (by rw [HSN.out]; exact hstep_same hx ha8 hb8 hf)
                  go_wp2_with fail
                  go_quiet (fail)
                  go_wp2_with (go_at_call 91; refine (HH91.out _ _ _ (by assumption) (by assumption)).mono ?_; rintro e w' ⟨rfl, rfl⟩)
                  go_roundw
                  case rel => exact ⟨k + 1, x, by omega, by go_num, rfl, by rw [HAG.out], hx, hmx, HNX, Lib.hid (belowN HBW.out _)⟩
                  case measure => simp [intOf]; omega
                · have hnx : (h.js.take (k + 1)).foldl (hstep s) m2 = x + 2 ^ a := by rw [HSN.out]; exact hstep_right hs256 hx ha8 hb8 h1 h2 h3 h4
                  have hxl : x + 2 ^ a < 256 := by rw [add_bit x hx a ha8 (by assumption)]; exact or_lt hx (pow_lt ha8)
                  have hpp : 0 < 2 ^ a := Nat.pow_pos (by omega)
                  have hbi := fun W => bit_any a W (by omega)
                  obtain ⟨P, hP⟩ : ∃ P : Nat, 2 ^ a = P := ⟨_, rfl⟩
                  rw [hP] at hnx hxl hpp hbi
                  have HNX := Lib.hid hnx
                  have HBI := Lib.hid hbi
                  clear hnx hbi hP
                  go_wp2_with fail
                  go_quiet (fail)
                  go_wp2_with (first | (go_at_call 91; refine (HH91.out _ _ _ (by assumption) (by assumption)).mono ?_; rintro e w' ⟨rfl, rfl⟩) | (go_at_call 47; refine (HBI.out _).mono ?_; rintro e w' ⟨rfl, rfl⟩))
                  go_roundw
                  case rel => exact ⟨k + 1, x + P, by omega, by go_num, by go_num, by rw [decide_eq_true (by omega)], hxl, by omega, HNX, Lib.hid (belowN HBW.out _)⟩
                  case measure => simp [intOf]; omega
              · cases h4 : x.testBit b
                · have hnx : (h.js.take (k + 1)).foldl (hstep s) m2 = x + 2 ^ b := by rw [HSN.out]; exact hstep_left hs256 hx ha8 hb8 h1 h2 h3 h4
                  have hxl : x + 2 ^ b < 256 := by rw [add_bit x hx b hb8 (by assumption)]; exact or_lt hx (pow_lt hb8)
                  have hpp : 0 < 2 ^ b := Nat.pow_pos (by omega)
                  have hbi := fun W => bit_any b W (by omega)
                  obtain ⟨P, hP⟩ : ∃ P : Nat, 2 ^ b = P := ⟨_, rfl⟩
                  rw [hP] at hnx hxl hpp hbi
                  have HNX := Lib.hid hnx
                  have HBI := Lib.hid hbi
                  clear hnx hbi hP
                  go_wp2_with fail
                  go_quiet (fail)
                  go_wp2_with (first | (go_at_call 91; refine (HH91.out _ _ _ (by assumption) (by assumption)).mono ?_; rintro e w' ⟨rfl, rfl⟩) | (go_at_call 47; refine (HBI.out _).mono ?_; rintro e w' ⟨rfl, rfl⟩))
                  go_roundw
                  case rel => exact ⟨k + 1, x + P, by omega, by go_num, by go_num, by rw [decide_eq_true (by omega)], hxl, by omega, HNX, Lib.hid (belowN HBW.out _)⟩
                  case measure => simp [intOf]; omega
                · have hf : x.testBit a = x.testBit b := by rw [h3, h4]
                  have HNX : Hid ((h.js.take (k + 1)).foldl (hstep s) m2 = x) := Lib.hid (by rw [HSN.out]; exact hstep_same hx ha8 hb8 hf)
                  go_wp2_with fail
                  go_quiet (fail)
                  go_wp2_with (go_at_call 91; refine (HH91.out _ _ _ (by assumption) (by assumption)).mono ?_; rintro e w' ⟨rfl, rfl⟩)
                  go_roundw
                  case rel => exact ⟨k + 1, x, by omega, by go_num, rfl, by rw [HAG.out], hx, hmx, HNX, Lib.hid (belowN HBW.out _)⟩
                  case measure => simp [intOf]; omega
            · obtain rfl : k = h.js.length := by omega
              have hxx := HX.out
              rw [List.take_length] at hxx
              have hhr : hround h.js s m2 = x := hxx
              have hG := HG2.out
              rw [hhr] at hG
              have HGG := Lib.hid hG
              clear hxx hhr hG HX HG2 HHR
              by_cases hxm : x = m2
              · subst hxm
                have hres : (x == s) = R := by have := HGG.out; rwa [if_pos rfl] at this
                have HRS := Lib.hid hres
                clear hres
                have hfa : decide (x ≠ x) = false := by simp
                rw [hfa]
                go_wp2_with fail
                go_roundw
                case rel => exact ⟨x, f + 1, false, rfl, rfl, hx, by omega, Lib.hid (by rw [if_neg (by simp)]; exact HRS.out), HBW⟩
                case measure => simp [measH]
              · have hres : hangF h.js s f x = R := by have := HGG.out; rwa [if_neg hxm] at this
                have HRS := Lib.hid hres
                have htr : decide (x ≠ m2) = true := decide_eq_true hxm
                rw [htr]
                clear hres HGG
                go_wp2_with fail
                go_roundw
                case rel => exact ⟨x, f, true, rfl, rfl, hx, by omega, Lib.hid (by rw [if_pos rfl]; exact HRS.out), HBW⟩
                case measure => simp [measH, intOf]; omega
end Go.Proofs.Ytojgdallodmanaa

namespace Go.Proofs.Ytojgdallodmanaa
open Go.RowKit

set_option maxRecDepth 100000 in
set_option maxHeartbeats 8000000 in
theorem refBlock_any (h : Hul) (A J : Option Addr) (B cap capJ : Nat) (set : Int) (w : World) (hH : HulRd w B h A cap J capJ) (hn1 : 1 ≤ h.ps.length) (hn8 : h.ps.length ≤ 8) (hj : JsOk h.ps.length h.js) (hjl : h.js.length ≤ 12) (hB : B ≤ w.heap.size) :
    Calls Try.prog 110 #[hv h A cap J capJ, .int .i64 set] w fun e w' => e = .returned (iv (blockE h.ps.length h.js set)) ∧ Below w.heap.size w w' := by
  obtain ⟨W1, hW1, hb0, hzz, p0, p1, p2, p3, p4⟩ := hulBox w h A cap J capJ
  have hpm := hH.pm
  have hjm := hH.jm
  have hpl := hH.pl
  unfold maxLen at hpm hjm
  have hbe : blockE h.ps.length h.js set = if inB 1 (((2 ^ h.ps.length : Nat) : Int) - 1) set then (if hangsB h.js set.toNat then 0 else 6) else 4 := by unfold blockE; rw [Int.natCast_pow]; rfl
  obtain ⟨E, hE⟩ : ∃ E, blockE h.ps.length h.js set = E := ⟨_, rfl⟩
  rw [hE] at hbe ⊢
  have hbi := fun W => bit_any h.ps.length W (by omega)
  have hpw : 2 ^ h.ps.length ≤ 256 := Nat.pow_le_pow_right (n := 2) (by decide) hn8
  have hHH := fun s (hs : s < 2 ^ h.ps.length) => refHangs_any h A J B cap capJ s W1 (hH.below hb0 hB) hn1 hn8 hj hjl hs (Nat.le_trans hB hb0.size)
  obtain ⟨P, hP⟩ : ∃ P : Nat, 2 ^ h.ps.length = P := ⟨_, rfl⟩
  rw [hP] at hbe hbi hpw hHH
  have HBI := Lib.hid hbi
  have HB0 := Lib.hid hb0
  have HHH := Lib.hid hHH
  clear hE hbi hb0 hHH hH hP hj
  cases hin : inB 1 ((P : Int) - 1) set
  · rw [hin] at hbe
    simp only [Bool.false_eq_true, if_false] at hbe
    subst hbe
    have HIN := Lib.hid hin
    clear hin
    go_enter Try.func110, Try.ntmps110
    go_wp2_with (go_at_call 47; refine (HBI.out _).mono ?_; rintro e w' ⟨rfl, rfl⟩)
    refine (in_b HIN.out _).mono ?_
    rintro e w2 ⟨rfl, rfl⟩
    go_wp2_with fail
    go_ret
    exact ⟨rfl, HB0.out⟩
  · rw [hin] at hbe
    simp only [if_true] at hbe
    have h1 := inB_t hin
    obtain ⟨s, rfl⟩ : ∃ s : Nat, set = (s : Int) := ⟨set.toNat, by omega⟩
    rw [Int.toNat_natCast] at hbe
    have hhs := HHH.out s (by omega)
    have HIN := Lib.hid hin
    clear hin
    cases hg : hangsB h.js s
    · rw [hg] at hbe hhs
      simp only [Bool.false_eq_true, if_false] at hbe
      subst hbe
      have HHS := Lib.hid hhs
      clear hhs hg
      go_enter Try.func110, Try.ntmps110
      go_wp2_with (go_at_call 47; refine (HBI.out _).mono ?_; rintro e w' ⟨rfl, rfl⟩)
      refine (in_b HIN.out _).mono ?_
      rintro e w2 ⟨rfl, rfl⟩
      go_wp2_with fail
      refine HHS.out.mono ?_
      rintro e w2 ⟨rfl, hb2⟩
      have HB2 := Lib.hid (belowT HB0.out hb2)
      clear hb2
      go_wp2_with fail
      go_ret
      exact ⟨rfl, HB2.out⟩
    · rw [hg] at hbe hhs
      simp only [if_true] at hbe
      subst hbe
      have HHS := Lib.hid hhs
      clear hhs hg
      go_enter Try.func110, Try.ntmps110
      go_wp2_with (go_at_call 47; refine (HBI.out _).mono ?_; rintro e w' ⟨rfl, rfl⟩)
      refine (in_b HIN.out _).mono ?_
      rintro e w2 ⟨rfl, rfl⟩
      go_wp2_with fail
      refine HHS.out.mono ?_
      rintro e w2 ⟨rfl, hb2⟩
      have HB2 := Lib.hid (belowT HB0.out hb2)
      clear hb2
      go_wp2_with fail
      go_ret
      exact ⟨rfl, HB2.out⟩

theorem all_any (h : Hul) (A J : Option Addr) (cap capJ : Nat) (w : World) (hn8 : h.ps.length ≤ 8) :
    Calls Try.prog 93 #[hv h A cap J capJ] w fun e w' => e = .returned (iv (allN h : Nat)) ∧ Below w.heap.size w w' := by
  have hpw : 2 ^ h.ps.length ≤ 256 := Nat.pow_le_pow_right (n := 2) (by decide) hn8
  have hp1 : 1 ≤ 2 ^ h.ps.length := Nat.one_le_two_pow
  have ha : ((allN h : Nat) : Int) = ((2 ^ h.ps.length : Nat) : Int) - 1 := by unfold allN; omega
  have hbi := fun W => bit_any h.ps.length W (by omega)
  obtain ⟨P, hP⟩ : ∃ P : Nat, 2 ^ h.ps.length = P := ⟨_, rfl⟩
  rw [hP] at ha hbi hpw hp1
  have HBI := Lib.hid hbi
  have HA := Lib.hid ha
  clear ha hP hbi
  go_enter Try.func93, Try.ntmps93
  go_wp2_with (go_at_call 47; refine (HBI.out _).mono ?_; rintro e w' ⟨rfl, rfl⟩)
  go_ret
  exact ⟨by rw [HA.out]; rfl, belowA (belowR _) _⟩

set_option maxRecDepth 100000 in
set_option maxHeartbeats 8000000 in
theorem agrees_any (AL : Option Addr) (l : List Wgh) (capL : Nat) (AW : Option Addr) (wt : Nat → Int) (n B capW : Nat) (w : World) (hn8 : n ≤ 8) (hL : RdN 3 encWgh w B AL l) (hw : WghsOk n l) (hW : Rd1 iv w w.heap.size AW (rowW wt n)) (hb : WtOk n wt) (hB : B ≤ w.heap.size) :
    Calls Try.prog 94 #[.slice AL l.length capL, .slice AW n capW] w fun e w' => e = .returned (.bool (agreesB l wt)) ∧ Below w.heap.size w w' := by
  have hl6 := hw.l6
  have HL := Lib.hid hL
  have HWO := Lib.hid hw
  have HW := Lib.hid hW
  have HB := Lib.hid hb
  clear hL hw hW hb
  go_enter Try.func94, Try.ntmps94
  go_wp2_with fail
  obtain ⟨wq, hwq⟩ : ∃ wq : World, wq = w := ⟨_, rfl⟩
  have HBQ : Hid (Below w.heap.size w wq) := Lib.hid (by rw [hwq]; exact belowR _)
  rw [← hwq]
  clear hwq
  go_loopw [5] (fun vi wr => ∃ k : Nat, k ≤ l.length ∧ vi = .int .i64 k ∧ Hid (agreesB (l.take k) wt = true) ∧ Hid (Below w.heap.size w wr)) (fun vi _ => l.length - (intOf vi).toNat)
  case atStart => exact ⟨0, Nat.zero_le _, rfl, Lib.hid rfl, HBQ⟩
  case round =>
    obtain ⟨k, hk, rfl, HN, HBR⟩ := hrel
    have hzr := HBR.out.size
    by_cases hlt : k < l.length
    · obtain ⟨y, hy⟩ : ∃ y, l[k]? = some y := ⟨_, List.getElem?_eq_getElem hlt⟩
      obtain ⟨s, a1, a2, a3, a4, a5⟩ := HWO.out.each y (List.mem_of_getElem? hy)
      obtain ⟨bl, offl, rfl, _, d0, d1, d2⟩ := wghAt (HL.out.below HBR.out hB) hy
      have hrow := HW.out.below HBR.out (Nat.le_refl _)
      have hsc : ∀ n', Calls Try.prog 78 #[.slice AW n capW, .int .i64 s] (wr.drewN n') fun e w' => e = .returned (iv (sumS wt s)) ∧ w' = wr.drewN n' := fun n' => sumS_any _ wt n _ capW s _ hn8 a2 (hrow.below (belowN (belowR wr) n') hzr) HB.out
      have hin : ∀ n', Calls Try.prog 59 #[iv (sumS wt s), .int .i64 y.lo, .int .i64 y.hi] (wr.drewN n') fun e w' => e = .returned (.bool (inB y.lo y.hi (sumS wt s))) ∧ w' = wr.drewN n' := fun n' => (in_any (sumS wt s) y.lo y.hi _).mono fun _ _ h => ⟨h.1, h.2.symm⟩
      have htk : l.take (k + 1) = l.take k ++ [y] := by
        obtain ⟨h, rfl⟩ := List.getElem?_eq_some_iff.1 hy
        rw [List.take_succ_eq_append_getElem h]
      have hag : agreesB (l.take (k + 1)) wt = inB y.lo y.hi (sumS wt s) := by
        rw [htk]
        unfold agreesB
        rw [List.all_append]
        have := HN.out
        unfold agreesB at this
        rw [this]
        simp [inB, a1]
      have hmem := List.mem_of_getElem? hy
      have hbad : inB y.lo y.hi (sumS wt s) = false → agreesB l wt = false := fun hf => by
        unfold agreesB
        rw [List.all_eq_false]
        refine ⟨y, hmem, ?_⟩
        unfold inB at hf
        rw [a1, Int.toNat_natCast]
        simpa using hf
      rw [a1] at d0
      obtain ⟨yset, ylo, yhi⟩ := y
      simp only at d0 d1 d2 hin hag hbad
      obtain ⟨S, hS⟩ : ∃ S, sumS wt s = S := ⟨_, rfl⟩
      rw [hS] at hsc hin hag hbad
      obtain ⟨q, hq⟩ : ∃ q, inB ylo yhi S = q := ⟨_, rfl⟩
      rw [hq] at hin hag hbad
      have HSC := Lib.hid hsc
      have HIN := Lib.hid hin
      have HAG := Lib.hid hag
      have HBAD := Lib.hid hbad
      have hk0 : (0 : Int) ≤ (k : Int) := by omega
      have hkz : (k : Int) < (l.length : Int) := by omega
      clear hy hsc hrow hS a1 a2 a3 a4 a5 hin hag hbad htk hmem hq
      go_wp2_with fail
      go_quiet ((first | (go_at_call 78; exact Calls.quiet_of_same (HSC.out _)) | (go_at_call 59; exact Calls.quiet_of_same (HIN.out _))))
      cases q
      · go_wp2_with fail
        go_ret
        exact ⟨by rw [HBAD.out trivial]; rfl, belowN HBR.out _⟩
      · go_wp2_with fail
        go_roundw
        case rel => exact ⟨k + 1, by omega, by go_num, HAG, Lib.hid (belowN HBR.out _)⟩
        case measure => simp [intOf]; omega
    · go_wp2_with fail
      go_ret
      obtain rfl : k = l.length := by omega
      have := HN.out
      rw [List.take_length] at this
      exact ⟨by rw [this]; rfl, HBR.out⟩
end Go.Proofs.Ytojgdallodmanaa

namespace Go.Proofs.Ytojgdallodmanaa
open Go.RowKit

theorem loOf_bd {h : Hul} (hps : PsOk h.ps) (i : Nat) : 0 ≤ loOf h i ∧ loOf h i ≤ 100000 := by
  have hb := lo_box hps
  refine ⟨(hiOf_le hps i).1, ?_⟩
  rcases Nat.lt_or_ge i h.ps.length with hi | hi
  · have := (box_iff.1 hb i hi).2
    have := (hiOf_le hps i).2
    omega
  · unfold loOf; rw [List.getElem?_eq_none hi]; simp

set_option maxRecDepth 100000 in
set_option maxHeartbeats 16000000 in
theorem filled_any (h : Hul) (A J : Option Addr) (B cap capJ : Nat) (AL : Option Addr) (l : List Wgh) (capL first : Nat) (w : World)
    (hH : HulRd w B h A cap J capJ) (hk : HulOk h) (hL : RdN 3 encWgh w B AL l) (hw : WghsOk h.ps.length l) (hf : first < 256) (hB : B ≤ w.heap.size) :
    Calls Try.prog 109 #[hv h A cap J capJ, .slice AL l.length capL, .int .i64 first] w (RowPost (filled h l first) h.ps.length w) := by
  obtain ⟨i3, hi3, hz30, hz31, hz32⟩ := info_parts Try.info3
  obtain ⟨W1, hW1, hb0, hzz, p0, p1, p2, p3, p4⟩ := hulBox w h A cap J capJ
  have hn8 := hk.n8
  have hn1 := hk.n1
  have hl6 := hw.l6
  have HKB : Hid (∀ W, Below W1.heap.size W1 W → W.cell? ⟨w.heap.size, 0, none⟩ = some (.slice A h.ps.length cap) ∧ W.cell? ⟨w.heap.size, 1, none⟩ = some (.slice J h.js.length capJ) ∧ W.cell? ⟨w.heap.size, 2, none⟩ = some (.int .i64 h.slo) ∧ W.cell? ⟨w.heap.size, 3, none⟩ = some (.int .i64 h.shi) ∧ W.cell? ⟨w.heap.size, 4, none⟩ = some (.int .i64 h.winch)) := Lib.hid fun W hb => ⟨keepC hb p0, keepC hb p1, keepC hb p2, keepC hb p3, keepC hb p4⟩
  have HH := Lib.hid (hH.below hb0 hB)
  have HL := Lib.hid (hL.below hb0 hB)
  have HWO := Lib.hid hw
  have HK := Lib.hid hk
  have HB0 := Lib.hid hb0
  have hBz : B ≤ W1.heap.size := Nat.le_trans hB hb0.size
  have hzW : w.heap.size ≤ W1.heap.size := hb0.size
  have hplc := hH.pl
  have hpm := hH.pm
  unfold maxLen at hpm
  have HFIN : Hid (∀ e w', RowPost (filledTo h l first h.ps.length) h.ps.length w e w' → RowPost (filled h l first) h.ps.length w e w') := Lib.hid fun _ _ h => h
  obtain ⟨POST, hPOST⟩ : ∃ P, RowPost (filled h l first) h.ps.length w = P := ⟨_, rfl⟩
  rw [hPOST] at HFIN ⊢
  clear hb0 hH hL hw hk hPOST hzz
  have hpl : h.ps.length ≤ 8 := hn8
  go_enter Try.func109, Try.ntmps109
  go_wp2_with fail
  clear hW1 p0 p1 p2 p3 p4
  obtain ⟨wq, hwq⟩ : ∃ wq : World, wq = W1 := ⟨_, rfl⟩
  have HBQ : Hid (Below W1.heap.size W1 wq) := Lib.hid (by rw [hwq]; exact belowR _)
  rw [← hwq]
  clear hwq
  go_loopw [7, 8] (fun vv vi wr => ∃ (k : Nat) (v : Value), k ≤ h.ps.length ∧ vi = .int .i64 k ∧ v = vv ∧ Hid (wr.ownsRow W1.heap.size 3 1 v k ((rowW (loOf h) k).map iv)) ∧ Hid (Below W1.heap.size W1 wr)) (fun _ vi _ => h.ps.length - (intOf vi).toNat)
  case atStart => exact ⟨0, _, Nat.zero_le _, rfl, rfl, Lib.hid (World.ownsRow_nil _ _ _ _), HBQ⟩
  case round =>
    obtain ⟨k, v, hk, rfl, rfl, OWN, HBR⟩ := hrel
    obtain ⟨p0, p1, p2, p3, p4⟩ := HKB.out _ HBR.out
    have hzr := HBR.out.size
    by_cases hlt : k < h.ps.length
    · obtain ⟨x, hx⟩ : ∃ x, h.ps[k]? = some x := ⟨_, List.getElem?_eq_getElem hlt⟩
      obtain ⟨b, off, rfl, _, e0, e1, e2⟩ := prtAt (HH.out.ps.below HBR.out hBz) hx
      have hlo : loOf h k = x.lo := by simp [loOf, hx]
      obtain ⟨xn, xlo, xhi⟩ := x
      simp only at e0 e1 e2 hlo
      have HLO := Lib.hid hlo
      have hnew : ∀ j u, [iv xlo][j]? = some u → (wr.alloc (.cells #[iv xlo] 3)).cell? ((⟨wr.heap.size, 0, none⟩ : Addr).add j) = some u := one_new _ _ _
      have HNW := Lib.hid hnew
      have hk0 : (0 : Int) ≤ (k : Int) := by omega
      have hkz : (k : Int) < (h.ps.length : Int) := by omega
      clear hx hlo hnew p1 p2 p3 p4 e0 e2
      go_wp2_with (at_builtin; refine wpList_append_own _ rfl _ _ 40 rfl W1.heap.size 3 i3 (.int .i64 0) 1 8 Try.underlying40 hi3 hz30 hz31 hz32 rfl (by decide) _ _ _ rfl (OWN.out.alloc _) ⟨wr.heap.size, 0, none⟩ 1 1 [iv xlo] rfl rfl ?c1 ?c2 ?c3 ?c4 ?c5 ?_)
      case c1 => exact HNW.out
      case c2 => simp [Value.oneCell']
      case c3 => unfold maxLen; omega
      case c4 => omega
      case c5 => simp; omega
      intro v' w4 hown' hgrow _
      have hB4 : Below W1.heap.size W1 w4 := grownB (OWN.out.alloc _) hgrow (Nat.le_refl _) (belowA HBR.out _)
      have HO' := Lib.hid hown'
      have HB4 := Lib.hid hB4
      clear hgrow hown' p0 e1 hB4
      go_wp2_with fail
      go_roundw
      case rel => exact ⟨k + 1, v', by omega, by go_num, rfl, Lib.hid (by rw [rowW_succ, HLO.out, List.map_append]; exact HO'.out), HB4⟩
      case measure => simp [intOf]; omega
    · obtain rfl : k = h.ps.length := by omega
      have hown := OWN.out
      obtain ⟨g0, cap0, rfl, hg0, _, _⟩ := own_form hown hn1
      have HO0 := Lib.hid hown
      clear hown OWN
      go_wp2_with fail
      clear p0 p1 p2 p3 p4
      obtain ⟨wp, hwp⟩ : ∃ wp : World, wp = wr := ⟨_, rfl⟩
      have HBP : Hid (Below W1.heap.size W1 wp) := Lib.hid (by rw [hwp]; exact HBR.out)
      have HOP : Hid (wp.ownsRow W1.heap.size 3 1 (.slice (some ⟨g0, 0, none⟩) h.ps.length cap0) h.ps.length ((rowW (loOf h) h.ps.length).map iv)) := Lib.hid (by rw [hwp]; exact HO0.out)
      rw [← hwp]
      clear hwp HBR HO0 hzr
      go_loopw [7, 9] (fun vv vm wr => ∃ (m g cp : Nat), m ≤ h.ps.length ∧ vm = .int .i64 ((m : Int) + 1) ∧ vv = .slice (some ⟨g, 0, none⟩) h.ps.length cp ∧ Hid (wr.ownsRow W1.heap.size 3 1 (.slice (some ⟨g, 0, none⟩) h.ps.length cp) h.ps.length ((rowW (filledTo h l first m) h.ps.length).map iv)) ∧ Hid (Below W1.heap.size W1 wr)) (fun _ vm _ => h.ps.length + 1 - (intOf vm).toNat)
      case atStart => exact ⟨0, g0, cap0, Nat.zero_le _, by go_num, rfl, HOP, HBP⟩
      case round =>
        obtain ⟨m, g, cp, hm, rfl, rfl, HO, HBR⟩ := hrel
        by_cases hlt : m < h.ps.length
        · obtain ⟨p0, p1, p2, p3, p4⟩ := HKB.out _ HBR.out
          have hmz : (m : Int) + 1 ≤ (h.ps.length : Int) := by omega
          go_wp2_with fail
          clear p0 p1 p2 p3 p4
          obtain ⟨wa, hwa⟩ : ∃ wa : World, wa = wr := ⟨_, rfl⟩
          have HBA : Hid (Below W1.heap.size W1 wa) := Lib.hid (by rw [hwa]; exact HBR.out)
          have HOA : Hid (wa.ownsRow W1.heap.size 3 1 (.slice (some ⟨g, 0, none⟩) h.ps.length cp) h.ps.length ((rowW (filledTo h l first m) h.ps.length).map iv)) := Lib.hid (by rw [hwa]; exact HO.out)
          rw [← hwa]
          clear hwa HBR HO
          go_loopw [7, 10] (fun vv vi wr => ∃ (k g cp : Nat), k ≤ l.length ∧ vi = .int .i64 k ∧ vv = .slice (some ⟨g, 0, none⟩) h.ps.length cp ∧ Hid (wr.ownsRow W1.heap.size 3 1 (.slice (some ⟨g, 0, none⟩) h.ps.length cp) h.ps.length ((rowW (fillTo h l first (m + 1) (filledTo h l first m) k) h.ps.length).map iv)) ∧ Hid (Below W1.heap.size W1 wr)) (fun _ vi _ => l.length - (intOf vi).toNat)
          case atStart => exact ⟨0, g, cp, Nat.zero_le _, rfl, rfl, HOA, HBA⟩
          case round =>
            obtain ⟨k, g2, cp2, hk, rfl, rfl, HO, HBR⟩ := hrel
            by_cases hlt2 : k < l.length
            · obtain ⟨y, hy⟩ : ∃ y, l[k]? = some y := ⟨_, List.getElem?_eq_getElem hlt2⟩
              obtain ⟨s, a1, hs2, a3, a4, a5⟩ := HWO.out.each y (List.mem_of_getElem? hy)
              have hfs := fillTo_succ h l first (m + 1) (filledTo h l first m) k
              rw [hy] at hfs
              simp only [a1, Int.toNat_natCast] at hfs
              have hbx : Box h (fillTo h l first (m + 1) (filledTo h l first m) k) := fillTo_box (filledTo_box HK.out.ps first m) k
              obtain ⟨bl, ol, rfl, _, d0, d1, d2⟩ := wghAt (HL.out.below HBR.out hBz) hy
              have hs256 := lt256 hn8 hs2
              obtain ⟨v, hv⟩ : ∃ v, fillTo h l first (m + 1) (filledTo h l first m) k = v := ⟨_, rfl⟩
              rw [hv] at hfs hbx HO
              rw [a1] at d0
              have hf1 : fillOne h l first y v = raised h l (raised h l v (s &&& first) (y.lo - sumS v s)) (s - (s &&& first)) (y.lo - sumS (raised h l v (s &&& first) (y.lo - sumS v s)) s) := by unfold fillOne; rw [a1]; rfl
              have hCs : s &&& first ≤ s := Nat.and_le_left
              have hcm : ∀ W, Calls Try.prog 118 #[.int .i64 s, .int .i64 first] W fun e w' => e = .returned (iv (s &&& first : Nat)) ∧ W = w' := fun W => common_any s first W hs256 hf
              obtain ⟨C, hC⟩ : ∃ C, s &&& first = C := ⟨_, rfl⟩
              rw [hC] at hf1 hCs hcm
              obtain ⟨yset, ylo, yhi⟩ := y
              simp only at hf1 d0 d1 d2 a3 a4 a5 hfs
              have hsd : (s : Int) - (C : Int) = ((s - C : Nat) : Int) := by omega
              have HFS := Lib.hid hfs
              have HF1 := Lib.hid hf1
              have HvBX := Lib.hid hbx
              have HCM := Lib.hid hcm
              have HSD := Lib.hid hsd
              have HV := Lib.hid hv
              have hmn : ∀ W, Calls Try.prog 127 #[.int .i64 s] W fun e w' => e = .returned (iv (onesN s)) ∧ W = w' := fun W => many2_any s W hs256
              have hk0 : (0 : Int) ≤ (k : Int) := by omega
              have hkz : (k : Int) < (l.length : Int) := by omega
              obtain ⟨O, hO⟩ : ∃ O, onesN s = O := ⟨_, rfl⟩
              rw [hO] at hmn HFS
              have HMN := Lib.hid hmn
              have hO8 : O ≤ 8 := by rw [← hO]; exact onesN_le s
              clear hy a1 hfs hbx hf1 hcm hC hsd hv hmn hO
              by_cases hom : O = m + 1
              case neg =>
                have hne : ((O : Int) != ((m : Int) + 1)) = true := by rw [bne_iff_ne]; omega
                have HOM := Lib.hid hom
                clear hom
                go_wp2_with (go_at_call 127; refine (HMN.out _).mono ?_; rintro e w' ⟨rfl, rfl⟩)
                go_roundw
                case rel => exact ⟨k + 1, g2, cp2, by omega, by go_num, rfl, Lib.hid (by rw [HFS.out, if_neg HOM.out]; exact HO.out), HBR⟩
                case measure => simp [intOf]; omega
              have hne : ((O : Int) != ((m : Int) + 1)) = false := by rw [bne_eq_false_iff_eq]; omega
              have HFS2 : Hid (fillTo h l first (m + 1) (filledTo h l first m) (k + 1) = raised h l (raised h l v C (ylo - sumS v s)) (s - C) (ylo - sumS (raised h l v C (ylo - sumS v s)) s)) := Lib.hid (by rw [HFS.out, if_pos hom]; exact HF1.out)
              have HKX : Hid (∀ W, Below wr.heap.size wr W → W.cell? ⟨bl, ol + k * 3, none⟩ = some (iv ((s : Nat) : Int)) ∧ W.cell? ⟨bl, ol + k * 3 + 1, none⟩ = some (iv ylo)) := Lib.hid fun W hb => ⟨keepC hb d0, keepC hb d1⟩
              have HKW : Hid (∀ W, Below wr.heap.size wr W → W.cell? ⟨w.heap.size, 0, none⟩ = some (.slice A h.ps.length cap) ∧ W.cell? ⟨w.heap.size, 1, none⟩ = some (.slice J h.js.length capJ) ∧ W.cell? ⟨w.heap.size, 2, none⟩ = some (.int .i64 h.slo) ∧ W.cell? ⟨w.heap.size, 3, none⟩ = some (.int .i64 h.shi) ∧ W.cell? ⟨w.heap.size, 4, none⟩ = some (.int .i64 h.winch)) := Lib.hid fun W hb => HKB.out W (belowT HBR.out hb)
              have HsBD := Lib.hid (sumS_bd hn8 hs2 (box_wt HK.out.ps HvBX.out))
              clear hom HFS HF1 HV d2
              have hsc : ∀ V, Below wr.heap.size wr V → Calls Try.prog 78 #[.slice (some ⟨g2, 0, none⟩) h.ps.length cp2, .int .i64 s] V fun e w' => e = .returned (iv (sumS v s)) ∧ w' = V := fun V hb => sumS_any _ v h.ps.length _ cp2 s V hn8 hs2 (row_rd (own_below HO.out hb)) (box_wt HK.out.ps HvBX.out)
              have hsb := sumS_bd hn8 hs2 (box_wt HK.out.ps HvBX.out)
              have hrc : ∀ V, Below wr.heap.size wr V → Calls Try.prog 108 #[hv h A cap J capJ, .slice (some ⟨bl, ol, none⟩) l.length capL, .slice (some ⟨g2, 0, none⟩) h.ps.length cp2, .int .i64 ((C : Nat) : Int), .int .i64 (ylo - sumS v s)] V (RowPost (raised h l v (C) (ylo - sumS v s)) h.ps.length V) := fun V hb => raised_any h A J B cap capJ _ l capL _ v cp2 (C) (ylo - sumS v s) V (HH.out.below (belowT HBR.out hb) hBz) HK.out (HL.out.below (belowT HBR.out hb) hBz) HWO.out (row_rd (own_below HO.out hb)) HvBX.out (by omega) (by omega) (by omega) (Nat.le_trans hBz (belowT HBR.out hb).size)
              have hbx2 : Box h (raised h l v (C) (ylo - sumS v s)) := raised_box l _ _ HvBX.out
              obtain ⟨u1, hu⟩ : ∃ u, raised h l v (C) (ylo - sumS v s) = u := ⟨_, rfl⟩
              rw [hu] at hrc hbx2
              have HU1 := Lib.hid hu
              obtain ⟨S1, hS⟩ : ∃ S, sumS v s = S := ⟨_, rfl⟩
              rw [hS] at hsc hrc hsb
              have HSS1 := Lib.hid hS
              have HSC := Lib.hid hsc
              have HRC := Lib.hid hrc
              have Hu1BX := Lib.hid hbx2
              obtain ⟨hsb0, hsb1⟩ := hsb
              have hwr : IntKind.i64.wrap (ylo - S1) = ylo - S1 := by rw [IntKind.wrap_i64]; omega
              clear hu hS hsc hrc hbx2
              go_upto_region 14 with (first | (go_at_call 127; refine (HMN.out _).mono ?_; rintro e w' ⟨rfl, rfl⟩) | (go_at_call 118; refine (HCM.out _).mono ?_; rintro e w' ⟨rfl, rfl⟩))
              have HBD := Lib.hid (belowDq (belowR wr))
              go_region_held3 (fun W => W.cell? ⟨w.heap.size, 0, none⟩ = some (.slice A h.ps.length cap) ∧ W.cell? ⟨w.heap.size, 1, none⟩ = some (.slice J h.js.length capJ) ∧ W.cell? ⟨w.heap.size, 2, none⟩ = some (.int .i64 h.slo) ∧ W.cell? ⟨w.heap.size, 3, none⟩ = some (.int .i64 h.shi) ∧ W.cell? ⟨w.heap.size, 4, none⟩ = some (.int .i64 h.winch) ∧ W.cell? ⟨bl, ol + k * 3, none⟩ = some (iv ((s : Nat) : Int)) ∧ W.cell? ⟨bl, ol + k * 3 + 1, none⟩ = some (iv ylo)) (first | exact ⟨(HKW.out _ HBD.out).1, (HKW.out _ HBD.out).2.1, (HKW.out _ HBD.out).2.2.1, (HKW.out _ HBD.out).2.2.2.1, (HKW.out _ HBD.out).2.2.2.2, (HKX.out _ HBD.out).1, (HKX.out _ HBD.out).2⟩ | exact ⟨(HKW.out _ HB2.out).1, (HKW.out _ HB2.out).2.1, (HKW.out _ HB2.out).2.2.1, (HKW.out _ HB2.out).2.2.2.1, (HKW.out _ HB2.out).2.2.2.2, (HKX.out _ HB2.out).1, (HKX.out _ HB2.out).2⟩) (((first | (go_at_call 78; ((with_reducible refine (HSC.out _ HBD.out).mono ?_); rintro e w2 ⟨rfl, rfl⟩)) | (go_at_call 108; ((with_reducible refine (HRC.out _ HBD.out).mono ?_); rintro e w3 ⟨hb2, g3, cap3, rfl, hown3⟩; have HB2 := Lib.hid (belowT HBD.out hb2))))))
              have HO3 := Lib.hid (own_base hown3 (Nat.le_refl _))
              clear hown3 hb2
              have HKX3 : Hid (∀ W, Below w3.heap.size w3 W → W.cell? ⟨bl, ol + k * 3, none⟩ = some (iv ((s : Nat) : Int)) ∧ W.cell? ⟨bl, ol + k * 3 + 1, none⟩ = some (iv ylo)) := Lib.hid fun W hb => HKX.out W (belowT HB2.out hb)
              have HKW3 : Hid (∀ W, Below w3.heap.size w3 W → W.cell? ⟨w.heap.size, 0, none⟩ = some (.slice A h.ps.length cap) ∧ W.cell? ⟨w.heap.size, 1, none⟩ = some (.slice J h.js.length capJ) ∧ W.cell? ⟨w.heap.size, 2, none⟩ = some (.int .i64 h.slo) ∧ W.cell? ⟨w.heap.size, 3, none⟩ = some (.int .i64 h.shi) ∧ W.cell? ⟨w.heap.size, 4, none⟩ = some (.int .i64 h.winch)) := Lib.hid fun W hb => HKW.out W (belowT HB2.out hb)
              have HBR3 : Hid (Below W1.heap.size W1 w3) := Lib.hid (belowT HBR.out HB2.out)
              obtain ⟨D, hD⟩ : ∃ D, s - C = D := ⟨_, rfl⟩
              rw [hD] at HFS2 HSD
              have hws : IntKind.i64.wrap ((s : Int) - (C : Int)) = (D : Int) := by rw [HSD.out, IntKind.wrap_i64]; omega
              have hDs : D ≤ s := by omega
              clear HB2 HBD HSC HRC hsb0 hsb1 hwr d0 d1 hD
              have hsc : ∀ V, Below w3.heap.size w3 V → Calls Try.prog 78 #[.slice (some ⟨g3, 0, none⟩) h.ps.length cap3, .int .i64 s] V fun e w' => e = .returned (iv (sumS u1 s)) ∧ w' = V := fun V hb => sumS_any _ u1 h.ps.length _ cap3 s V hn8 hs2 (row_rd (own_below HO3.out hb)) (box_wt HK.out.ps Hu1BX.out)
              have hsb := sumS_bd hn8 hs2 (box_wt HK.out.ps Hu1BX.out)
              have hrc : ∀ V, Below w3.heap.size w3 V → Calls Try.prog 108 #[hv h A cap J capJ, .slice (some ⟨bl, ol, none⟩) l.length capL, .slice (some ⟨g3, 0, none⟩) h.ps.length cap3, .int .i64 ((D : Nat) : Int), .int .i64 (ylo - sumS u1 s)] V (RowPost (raised h l u1 (D) (ylo - sumS u1 s)) h.ps.length V) := fun V hb => raised_any h A J B cap capJ _ l capL _ u1 cap3 (D) (ylo - sumS u1 s) V (HH.out.below (belowT HBR3.out hb) hBz) HK.out (HL.out.below (belowT HBR3.out hb) hBz) HWO.out (row_rd (own_below HO3.out hb)) Hu1BX.out (by omega) (by omega) (by omega) (Nat.le_trans hBz (belowT HBR3.out hb).size)
              have hbx2 : Box h (raised h l u1 (D) (ylo - sumS u1 s)) := raised_box l _ _ Hu1BX.out
              obtain ⟨u2, hu⟩ : ∃ u, raised h l u1 (D) (ylo - sumS u1 s) = u := ⟨_, rfl⟩
              rw [hu] at hrc hbx2
              have HU2 := Lib.hid hu
              obtain ⟨S2, hS⟩ : ∃ S, sumS u1 s = S := ⟨_, rfl⟩
              rw [hS] at hsc hrc hsb
              have HSS2 := Lib.hid hS
              have HSC := Lib.hid hsc
              have HRC := Lib.hid hrc
              have Hu2BX := Lib.hid hbx2
              obtain ⟨hsb0, hsb1⟩ := hsb
              have hwr : IntKind.i64.wrap (ylo - S2) = ylo - S2 := by rw [IntKind.wrap_i64]; omega
              clear hu hS hsc hrc hbx2
              go_upto_region 15 with (first | (go_at_call 127; refine (HMN.out _).mono ?_; rintro e w' ⟨rfl, rfl⟩) | (go_at_call 118; refine (HCM.out _).mono ?_; rintro e w' ⟨rfl, rfl⟩))
              have HBD := Lib.hid (belowDq (belowR w3))
              go_region_held3 (fun W => W.cell? ⟨w.heap.size, 0, none⟩ = some (.slice A h.ps.length cap) ∧ W.cell? ⟨w.heap.size, 1, none⟩ = some (.slice J h.js.length capJ) ∧ W.cell? ⟨w.heap.size, 2, none⟩ = some (.int .i64 h.slo) ∧ W.cell? ⟨w.heap.size, 3, none⟩ = some (.int .i64 h.shi) ∧ W.cell? ⟨w.heap.size, 4, none⟩ = some (.int .i64 h.winch) ∧ W.cell? ⟨bl, ol + k * 3, none⟩ = some (iv ((s : Nat) : Int)) ∧ W.cell? ⟨bl, ol + k * 3 + 1, none⟩ = some (iv ylo)) (first | exact ⟨(HKW3.out _ HBD.out).1, (HKW3.out _ HBD.out).2.1, (HKW3.out _ HBD.out).2.2.1, (HKW3.out _ HBD.out).2.2.2.1, (HKW3.out _ HBD.out).2.2.2.2, (HKX3.out _ HBD.out).1, (HKX3.out _ HBD.out).2⟩ | exact ⟨(HKW3.out _ HB2.out).1, (HKW3.out _ HB2.out).2.1, (HKW3.out _ HB2.out).2.2.1, (HKW3.out _ HB2.out).2.2.2.1, (HKW3.out _ HB2.out).2.2.2.2, (HKX3.out _ HB2.out).1, (HKX3.out _ HB2.out).2⟩) (((first | (go_at_call 78; ((with_reducible refine (HSC.out _ HBD.out).mono ?_); rintro e w2 ⟨rfl, rfl⟩)) | (go_at_call 108; ((with_reducible refine (HRC.out _ HBD.out).mono ?_); rintro e w4 ⟨hb2, g4, cap4, rfl, hown4⟩; have HB2 := Lib.hid (belowT HBD.out hb2))))))
              have HO4 := Lib.hid (own_base hown4 (Nat.le_refl _))
              clear hown4 hb2
              have HB4 := Lib.hid (belowT HBR3.out HB2.out)
              have hz4 := HBR3.out.size
              clear HB2 HBD HSC HRC hsb0 hsb1 hwr hws
              go_wp2_with fail
              go_roundw
              case rel => exact ⟨k + 1, g4, cap4, by omega, by go_num, rfl, Lib.hid (by rw [HFS2.out, HU1.out, HU2.out]; exact own_base HO4.out hz4), HB4⟩
              case measure => simp [intOf]; omega
            · obtain rfl : k = l.length := by omega
              go_wp2_with fail
              go_roundw
              case rel => exact ⟨m + 1, g2, cp2, by omega, by go_num, rfl, HO, HBR⟩
              case measure => simp [intOf]; omega
        · obtain rfl : m = h.ps.length := by omega
          obtain ⟨p0, p1, p2, p3, p4⟩ := HKB.out _ HBR.out
          go_wp2_with fail
          exact HFIN.out _ _ ⟨belowT HB0.out HBR.out, g, cp, rfl, own_base HO.out hzW⟩
end Go.Proofs.Ytojgdallodmanaa
