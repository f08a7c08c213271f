/- claim.Check: the error of an estate. -/
import Derived.Test.YtblbbhenmhkknaaW15
import Derived.Test.YtblbbhenmhkknaaW5
namespace Go.Proofs.Ytblbbhenmhkknaa
open Go.RowKit

def ClmsOk (cs : List Clm) : Prop := ∀ c ∈ cs, c.name.size ≤ maxLen
def toldAt (cs : List Clm) (i : Nat) : Int := match cs[i]? with | some c => toldE (cs.take i) c | none => 0
def estE (lo hi : Int) (cs : List Clm) : Int × Int × Int :=
  if rangeE 0 1000000000 lo hi = 0 then (if inB 1 8 (cs.length : Int) then (match firstBad (toldAt cs) cs.length with | none => (0, 0, 0) | some (i, e) => (2, i, e)) else (1, 0, 3)) else (1, 0, rangeE 0 1000000000 lo hi)

set_option maxRecDepth 100000 in
set_option maxHeartbeats 1000000 in
theorem check_any (lo hi : Int) (A : Option Addr) (cs : List Clm) (B cap : Nat) (w : World) (hm : cs.length ≤ cap) (hcm : cap ≤ maxLen) (hok : ClmsOk cs) (hR : RdN 4 encClm w B A cs) (hB : B ≤ w.heap.size) :
    Calls Try.prog 26 #[.agg #[.int .i64 lo, .int .i64 hi, .slice A cs.length cap]] w fun e w' => e = .returned (ret3 (estE lo hi cs)) ∧ Below w.heap.size w w' := by
  have hcm' := hcm
  unfold maxLen at hcm'
  obtain ⟨E, hE⟩ : ∃ E, rangeE 0 1000000000 lo hi = E := ⟨_, rfl⟩
  by_cases h1 : E = 0
  case neg =>
    have hr : estE lo hi cs = (1, 0, E) := by simp [estE, hE, h1]
    have hne : (E != 0) = true := by simpa using h1
    have HR := Lib.hid hr
    have HE := Lib.hid hE
    clear hr hE h1
    go_enter Try.func26, Try.ntmps26
    go_wp2_with (go_at_call 69; refine (spanned_any lo hi _).mono ?_; rintro e w1 ⟨he, hb⟩; rw [HE.out] at he; subst he)
    go_ret3
    exact ⟨by rw [HR.out]; rfl, belowT (belowA (belowR _) _) hb⟩
  subst h1
  have HE := Lib.hid hE
  cases h2 : inB 1 8 (cs.length : Int)
  · have hr : estE lo hi cs = (1, 0, 3) := by simp [estE, hE, h2]
    have HR := Lib.hid hr
    clear hr hE
    go_enter Try.func26, Try.ntmps26
    go_wp2_with (first | (go_at_call 69; refine (spanned_any lo hi _).mono ?_; rintro e w1 ⟨he, hb⟩; rw [HE.out] at he; subst he; have hB1 := belowT (belowA (belowR _) _) hb; have z1 : w.heap.size ≤ w1.heap.size := hB1.size; have z1l : w.heap.size < w1.heap.size := (by have := hb.size; simp only [World.size_alloc] at this; omega); have q2 : w1.cell? ⟨w.heap.size, 2, none⟩ = some (.slice A cs.length cap) := keepC hb (by go_simp)) | (go_at_call 55; refine (out_one _ _ (cs.length : Int) _ _ (by go_simp) (by simp)).mono ?_; rintro e w2 ⟨rfl, hb2⟩))
    go_ret3
    exact ⟨by rw [HR.out]; rfl, belowT (belowA hB1 _) hb2⟩
  · have hr : estE lo hi cs = (match firstBad (toldAt cs) cs.length with | none => (0, 0, 0) | some (i, e) => (2, i, e)) := by simp only [estE, hE, h2, if_true]
    have HR := Lib.hid hr
    clear hr hE
    go_enter Try.func26, Try.ntmps26
    go_wp2_with (first | (go_at_call 69; refine (spanned_any lo hi _).mono ?_; rintro e w1 ⟨he, hb⟩; rw [HE.out] at he; subst he; have hB1 := belowT (belowA (belowR _) _) hb; have z1 : w.heap.size ≤ w1.heap.size := hB1.size; have z1l : w.heap.size < w1.heap.size := (by have := hb.size; simp only [World.size_alloc] at this; omega); have q2 : w1.cell? ⟨w.heap.size, 2, none⟩ = some (.slice A cs.length cap) := keepC hb (by go_simp)) | (go_at_call 55; refine (out_one _ _ (cs.length : Int) _ _ (by go_simp) (by simp)).mono ?_; rintro e w2 ⟨rfl, hb2⟩; have hB2 := belowT (belowA hB1 _) hb2; have z2l : w.heap.size < w2.heap.size := (by have := hb2.size; simp only [World.size_alloc] at this; omega); have p2 : w2.cell? ⟨w.heap.size, 2, none⟩ = some (.slice A cs.length cap) := keepC hb2 (keepA q2 _)))
    clear hb q2 hb2
    have hcs8 : cs.length ≤ 8 := by have := inB_t h2; omega
    go_loopw [20] (fun i wr => ∃ k : Nat, k ≤ cs.length ∧ i = .int .i64 k ∧ Below w.heap.size w wr ∧ w.heap.size < wr.heap.size ∧ wr.cell? ⟨w.heap.size, 2, none⟩ = some (.slice A cs.length cap) ∧ firstBad (toldAt cs) k = none) (fun i _ => cs.length - (intOf i).toNat)
    case atStart => exact ⟨0, Nat.zero_le _, rfl, hB2, z2l, p2, rfl⟩
    case round =>
      clear p2 z2l hB2 z1 z1l hB1
      obtain ⟨k, hk, rfl, hbw, hzl, p2, hn⟩ := hrel
      have HN := Lib.hid hn
      clear hn
      by_cases hlt : k < cs.length
      · obtain ⟨c, hx⟩ : ∃ x, cs[k]? = some x := ⟨_, List.getElem?_eq_getElem hlt⟩
        have hsn := hok c (List.mem_of_getElem? hx)
        have ht := fun w1 (hR1 : RdN 4 encClm w1 B A cs) (hB1 : B ≤ w1.heap.size) => told_any A cs k c B cap w1 (by omega) hcm hx hsn hR1 hB1
        have he : toldAt cs k = toldE (cs.take k) c := by simp [toldAt, hx]
        obtain ⟨b, off, rfl, _, _⟩ := clmAt hR hx
        obtain ⟨T, hT⟩ : ∃ T, toldE (cs.take k) c = T := ⟨_, rfl⟩
        rw [hT] at he ht
        have HT := Lib.hid ht
        have HE2 := Lib.hid he
        clear ht he hT hx
        by_cases hT0 : T = 0
        · subst hT0
          go_wp2_with (go_at_call 70; refine (HT.out _ (hR.below hbw hB) (Nat.le_trans hB hbw.size)).mono ?_; rintro e w3 ⟨rfl, hb3⟩)
          go_roundw
          case rel => exact ⟨k + 1, by omega, by go_num, belowT hbw hb3, by have := hb3.size; omega, keepC hb3 p2, firstBad_succ HN.out HE2.out⟩
          case measure => simp [intOf]; omega
        · have hne : (T != 0) = true := by simpa using hT0
          go_wp2_with (go_at_call 70; refine (HT.out _ (hR.below hbw hB) (Nat.le_trans hB hbw.size)).mono ?_; rintro e w3 ⟨rfl, hb3⟩)
          go_ret3
          exact ⟨by rw [HR.out, firstBad_at HN.out (by rw [HE2.out]; exact hT0) hlt, HE2.out]; rfl, belowT hbw hb3⟩
      · go_wp2
        go_ret3
        obtain rfl : k = cs.length := by omega
        exact ⟨by rw [HR.out, HN.out]; rfl, hbw⟩
end Go.Proofs.Ytblbbhenmhkknaa
