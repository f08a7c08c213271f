/- Any papers, at most so many (F44). -/
import Derived.Deep.DeepCutAuto
import Derived.Deep.QuietTactic
import Derived.BigQuiet
import Derived.Test.YtblbbhenmhkknaaZd2d2aa
namespace Go.Proofs.Ytblbbhenmhkknaa
open Go.RowKit Go.Sort

set_option maxRecDepth 100000 in
set_option maxHeartbeats 4000000 in
theorem anyForged_any (first : ByteArray) (A : Option Addr) (n cap f xa : Nat) (w : World) (hn : n ≤ 8) (hf8 : f ≤ 8) (hxa : xa ≤ 255) :
    Calls Try.prog 44 #[.agg #[.string first, .slice A n cap, .int .i64 f], .int .u8 xa] w fun e w' => e = .returned (iv (bitsS (firstF xa f n) : Nat)) ∧ Below w.heap.size w w' := by
  obtain ⟨W1, hW1⟩ : ∃ W1, w.alloc (.cells #[.string first, .slice A n cap, .int .i64 f] 24) = W1 := ⟨_, rfl⟩
  have hb0 : Below w.heap.size w W1 := by rw [← hW1]; exact belowA (belowR _) _
  have p1 : W1.cell? ⟨w.heap.size, 1, none⟩ = some (.slice A n cap) := by rw [← hW1]; clear hW1; go_simp
  have p2 : W1.cell? ⟨w.heap.size, 2, none⟩ = some (.int .i64 f) := by rw [← hW1]; clear hW1; go_simp
  have HB0 := Lib.hid hb0
  have HP := Lib.hid (And.intro p1 p2)
  have hwx : IntKind.i64.wrap (xa : Int) = (xa : Int) := by rw [IntKind.wrap_i64]; omega
  have HWX := Lib.hid hwx
  clear hb0 hwx
  go_enter Try.func44, Try.ntmps44
  go_wp2
  clear hW1 p1 p2
  go_loopw [5, 6] (fun vs vi wr => ∃ k : Nat, k ≤ n ∧ vi = .int .i64 k ∧ vs = .int .i64 (bitsS (firstF xa f k) : Nat) ∧ Hid (Below W1.heap.size W1 wr)) (fun _ vi _ => n - (intOf vi).toNat)
  case atStart => exact ⟨0, Nat.zero_le _, rfl, rfl, Lib.hid (belowR _)⟩
  case round =>
    obtain ⟨k, hk, rfl, rfl, HBR⟩ := hrel
    have p1 := keepC HBR.out HP.out.1
    have p2 := keepC HBR.out HP.out.2
    by_cases hlt : k < n
    · have hsp := firstF_spec xa f k
      have hle := bitsS_le hsp.1 (by omega)
      have hmany := bitsS_many hsp.1 (by omega)
      have hsn : firstF xa f (k + 1) = if hasB xa k = true ∧ (firstF xa f k).length < f then firstF xa f k ++ [k] else firstF xa f k := rfl
      have hca : ∀ W, Calls Try.prog 89 #[.int .i64 xa, .int .i64 k] W fun e w' => e = .returned (.bool (hasB xa k)) ∧ w' = W := fun W => (has_any xa k W (by omega) (by omega)).mono fun _ _ h => ⟨h.1, h.2.symm⟩
      have hcm : ∀ W, Calls Try.prog 46 #[.int .i64 (bitsS (firstF xa f k) : Nat)] W fun e w' => e = .returned (iv (manyN (bitsS (firstF xa f k)) 8 : Nat)) ∧ w' = W := fun W => (many_any (bitsS (firstF xa f k)) W (by omega)).mono fun _ _ h => ⟨h.1, h.2.symm⟩
      have hcb := fun W => bit_any k W (by omega)
      rw [hmany] at hcm
      have h2k : 2 ^ k ≤ 256 := by
        have : 2 ^ k ≤ 2 ^ 8 := Nat.pow_le_pow_right (by omega) (by omega)
        omega
      have hsum := bitsS_snoc (firstF xa f k) k
      have hl8 : (firstF xa f k).length ≤ 8 := by have := asc_len8 hsp.1; omega
      obtain ⟨F, hF⟩ : ∃ F, firstF xa f k = F := ⟨_, rfl⟩
      rw [hF] at hsn hcm hle hl8 hsum ⊢
      obtain ⟨S, hS⟩ : ∃ S, bitsS F = S := ⟨_, rfl⟩
      rw [hS] at hcm hle hsum ⊢
      obtain ⟨P2, hP2⟩ : ∃ p, 2 ^ k = p := ⟨_, rfl⟩
      rw [hP2] at hcb h2k hsum
      have HCA := Lib.hid hca
      have HCM := Lib.hid hcm
      have HCB := Lib.hid hcb
      have HSUM := Lib.hid hsum
      have HS := Lib.hid hS
      have hkz : (k : Int) < (n : Int) := by omega
      have hk0 : (0 : Int) ≤ (k : Int) := by omega
      clear hsp hmany hca hcm hcb hsum hF hS hP2
      cases hh : hasB xa k
      · rw [if_neg (fun h => by rw [hh] at h; simp at h)] at hsn
        have HSN := Lib.hid hsn
        have hca := HCA.out
        rw [hh] at hca
        have HCA := Lib.hid hca
        clear hsn hca hh
        go_upto_region 5 with fail
        have hwx := HWX.out
        go_quiet ((go_at_call 89; exact Calls.quiet_of_same (HCA.out _)))
        clear hwx
        go_wp2
        go_roundw
        case rel => exact ⟨k + 1, by omega, by go_num, by rw [HSN.out, HS.out], Lib.hid (belowN HBR.out _)⟩
        case measure => simp [intOf]; omega
      · have hca := HCA.out
        rw [hh] at hca hsn
        have HCA := Lib.hid hca
        clear hca hh
        by_cases hfl : F.length < f
        · rw [if_pos ⟨rfl, hfl⟩] at hsn
          have HSN := Lib.hid hsn
          have hd : decide ((F.length : Int) < (f : Int)) = true := by simpa using hfl
          have hd2 : decide (F.length < f) = true := by simpa using hfl
          clear hsn
          go_upto_region 5 with fail
          have hwx := HWX.out
          go_quiet ((first | (go_at_call 89; exact Calls.quiet_of_same (HCA.out _)) | (go_at_call 46; exact Calls.quiet_of_same (HCM.out _))))
          clear hwx
          go_wp2_with fail
          refine (HCB.out _).mono ?_
          rintro e w5 ⟨rfl, rfl⟩
          go_wp2
          go_roundw
          case rel => exact ⟨k + 1, by omega, by go_num, by rw [HSN.out, HSUM.out]; go_num, Lib.hid (belowN HBR.out _)⟩
          case measure => simp [intOf]; omega
        · rw [if_neg (fun h => hfl h.2)] at hsn
          have HSN := Lib.hid hsn
          have hd : decide ((F.length : Int) < (f : Int)) = false := by simpa using hfl
          have hd2 : decide (F.length < f) = false := by simpa using hfl
          clear hsn
          go_upto_region 5 with fail
          have hwx := HWX.out
          go_quiet ((first | (go_at_call 89; exact Calls.quiet_of_same (HCA.out _)) | (go_at_call 46; exact Calls.quiet_of_same (HCM.out _))))
          clear hwx
          go_wp2
          go_roundw
          case rel => exact ⟨k + 1, by omega, by go_num, by rw [HSN.out, HS.out], Lib.hid (belowN HBR.out _)⟩
          case measure => simp [intOf]; omega
    · obtain rfl : k = n := by omega
      go_wp2
      go_ret
      exact ⟨rfl, belowT HB0.out HBR.out⟩
end Go.Proofs.Ytblbbhenmhkknaa
