/- The contract of the reference's CheckShip. -/
import Derived.Test.YtblbbhenmhkknaaW5
import Derived.Test.YtblbbhenmhkknaaMem2
namespace Go.Proofs.Ytblbbhenmhkknaa
open Go.RowKit

set_option maxRecDepth 100000 in
set_option maxHeartbeats 1000000 in
theorem refCheckShip_any (first : ByteArray) (A : Option Addr) (ps : List Pap) (B cap : Nat) (forged : Int) (w : World) (hf : first.size ≤ maxLen) (hm : ps.length ≤ maxLen) (hok : PapsOk ps) (hR : RdN 3 encPap w B A ps) (hB : B ≤ w.heap.size) :
    Calls Try.prog 18 #[.agg #[.string first, .slice A ps.length cap, .int .i64 forged]] w fun e w' => e = .returned (ret3 (shipE first ps forged)) ∧ Below w.heap.size w w' := by
  have hm' := hm
  unfold maxLen at hm'
  cases h1 : nameB first
  · have hr : shipE first ps forged = (1, 0, 6) := by simp [shipE, h1]
    have HR := Lib.hid hr
    clear hr
    go_enter Try.func18, Try.ntmps18
    go_wp2_with (go_at_call 56; refine (refName_any _ _ (by assumption)).mono ?_; rintro e w1 ⟨rfl, hb⟩; obtain ⟨hc, hfr⟩ := bcell hb; have hb1 := belowT (belowA (belowR _) _) hb; have hz : w.heap.size ≤ w1.heap.size := hb1.size; have hzl : w.heap.size < w1.heap.size := (by have := hb.size; simp only [World.size_alloc] at this; omega))
    go_ret3
    exact ⟨by rw [HR.out]; rfl, hb1⟩
  by_cases h2 : ps.length ≤ 8
  case neg =>
    have hr : shipE first ps forged = (1, 0, 3) := by simp [shipE, h1, h2]
    have HR := Lib.hid hr
    clear hr
    go_enter Try.func18, Try.ntmps18
    go_wp2_with (go_at_call 56; refine (refName_any _ _ (by assumption)).mono ?_; rintro e w1 ⟨rfl, hb⟩; obtain ⟨hc, hfr⟩ := bcell hb; have hb1 := belowT (belowA (belowR _) _) hb; have hz : w.heap.size ≤ w1.heap.size := hb1.size; have hzl : w.heap.size < w1.heap.size := (by have := hb.size; simp only [World.size_alloc] at this; omega))
    go_ret3
    exact ⟨by rw [HR.out]; rfl, hb1⟩
  cases h3 : inB 0 8 forged
  · have hr : shipE first ps forged = (1, 0, 7) := by simp [shipE, h1, h2, h3]
    have HR := Lib.hid hr
    clear hr
    go_enter Try.func18, Try.ntmps18
    go_wp2_with (first | (go_at_call 56; refine (refName_any _ _ (by assumption)).mono ?_; rintro e w1 ⟨rfl, hb⟩; obtain ⟨hc, hfr⟩ := bcell hb; have hb1 := belowT (belowA (belowR _) _) hb; have hz : w.heap.size ≤ w1.heap.size := hb1.size; have hzl : w.heap.size < w1.heap.size := (by have := hb.size; simp only [World.size_alloc] at this; omega)) | (go_at_call 57; refine (in_any _ _ _ _).mono ?_; rintro e w3 ⟨rfl, rfl⟩))
    go_ret3
    exact ⟨by rw [HR.out]; rfl, hb1⟩
  have hr : shipE first ps forged = (match firstBad (papsE ps) ps.length with | none => (0, 0, 0) | some (i, e) => (2, i, e)) := by simp [shipE, h1, h2, h3]; rfl
  have HR := Lib.hid hr
  clear hr
  go_enter Try.func18, Try.ntmps18
  go_wp2_with (first | (go_at_call 56; refine (refName_any _ _ (by assumption)).mono ?_; rintro e w1 ⟨rfl, hb⟩; obtain ⟨hc, hfr⟩ := bcell hb; have hb1 := belowT (belowA (belowR _) _) hb; have hz : w.heap.size ≤ w1.heap.size := hb1.size; have hzl : w.heap.size < w1.heap.size := (by have := hb.size; simp only [World.size_alloc] at this; omega)) | (go_at_call 57; refine (in_any _ _ _ _).mono ?_; rintro e w3 ⟨rfl, rfl⟩))
  have q1 : w1.cell? ⟨w.heap.size, 1, none⟩ = some (.slice A ps.length cap) := keepC hb (by go_simp)
  go_loopw [5] (fun i wr => ∃ k : Nat, k ≤ ps.length ∧ i = .int .i64 k ∧ wr.cell? ⟨w.heap.size, 1, none⟩ = some (.slice A ps.length cap) ∧ Below w.heap.size w wr ∧ firstBad (papsE ps) k = none) (fun i _ => ps.length - (intOf i).toNat)
  case atStart => exact ⟨0, Nat.zero_le _, rfl, q1, hb1, rfl⟩
  case round =>
    clear hc hfr hz hzl hb1 hb q1
    obtain ⟨k, hk, rfl, q1, hbw, hn⟩ := hrel
    have HN := Lib.hid hn
    clear hn
    have hzw := hbw.size
    have hzw2 := lt_of_cell q1
    by_cases hlt : k < ps.length
    · obtain ⟨p, hx⟩ : ∃ x, ps[k]? = some x := ⟨_, List.getElem?_eq_getElem hlt⟩
      obtain ⟨b, off, rfl, hbB, c0, c1, c2⟩ := papAt (hR.below hbw hB) hx
      have s1 := hok.src p (List.mem_of_getElem? hx)
      have s2 := hok.dst p (List.mem_of_getElem? hx)
      have he : papsE ps k = papE p := by simp [papsE, hx]
      obtain ⟨day, src, dst⟩ := p
      simp only at c0 c1 c2 s1 s2
      have HE := Lib.hid he
      have HOK := Lib.hid hok
      clear hx he hok
      cases e1 : inB 0 40000 day
      · skip
        have hv : papE ⟨day, src, dst⟩ = 7 := by simp only [papE, e1]; rfl
        have HV := Lib.hid hv
        clear hv
        go_wp2_with (first | (go_at_call 57; refine (in_any _ _ _ _).mono ?_; rintro e w3 ⟨rfl, rfl⟩) | (go_at_call 56; refine (refName_any _ _ (by assumption)).mono ?_; rintro e w5 ⟨rfl, hb5⟩; obtain ⟨hc5, hfr5⟩ := bcell hb5; have hB5 : Below wr.heap.size wr w5 := belowT (by first | assumption | exact belowA (belowR _) _) hb5; have z5 : wr.heap.size ≤ w5.heap.size := hB5.size; have z5l : wr.heap.size < w5.heap.size := (by have := hb5.size; (try simp only [World.size_alloc] at this); omega)))
        go_ret3
        exact ⟨by rw [HR.out, firstBad_at HN.out (by rw [HE.out, HV.out]; decide) hlt, HE.out, HV.out]; rfl, belowT hbw (belowA (belowR _) _)⟩
      cases e2 : nameB src
      · skip
        have hv : papE ⟨day, src, dst⟩ = 6 := by simp only [papE, e1, e2]; rfl
        have HV := Lib.hid hv
        clear hv
        go_wp2_with (first | (go_at_call 57; refine (in_any _ _ _ _).mono ?_; rintro e w3 ⟨rfl, rfl⟩) | (go_at_call 56; refine (refName_any _ _ (by assumption)).mono ?_; rintro e w5 ⟨rfl, hb5⟩; obtain ⟨hc5, hfr5⟩ := bcell hb5; have hB5 : Below wr.heap.size wr w5 := belowT (by first | assumption | exact belowA (belowR _) _) hb5; have z5 : wr.heap.size ≤ w5.heap.size := hB5.size; have z5l : wr.heap.size < w5.heap.size := (by have := hb5.size; (try simp only [World.size_alloc] at this); omega)))
        go_ret3
        exact ⟨by rw [HR.out, firstBad_at HN.out (by rw [HE.out, HV.out]; decide) hlt, HE.out, HV.out]; rfl, belowT hbw hB5⟩
      cases e3 : nameB dst
      · skip
        have hv : papE ⟨day, src, dst⟩ = 6 := by simp only [papE, e1, e2, e3]; rfl
        have HV := Lib.hid hv
        clear hv
        go_wp2_with (first | (go_at_call 57; refine (in_any _ _ _ _).mono ?_; rintro e w3 ⟨rfl, rfl⟩) | (go_at_call 56; refine (refName_any _ _ (by assumption)).mono ?_; rintro e w5 ⟨rfl, hb5⟩; obtain ⟨hc5, hfr5⟩ := bcell hb5; have hB5 : Below wr.heap.size wr w5 := belowT (by first | assumption | exact belowA (belowR _) _) hb5; have z5 : wr.heap.size ≤ w5.heap.size := hB5.size; have z5l : wr.heap.size < w5.heap.size := (by have := hb5.size; (try simp only [World.size_alloc] at this); omega)))
        go_ret3
        exact ⟨by rw [HR.out, firstBad_at HN.out (by rw [HE.out, HV.out]; decide) hlt, HE.out, HV.out]; rfl, belowT hbw hB5⟩
      cases e4 : (src.toList == dst.toList)
      · have hv : papE ⟨day, src, dst⟩ = 0 := by simp only [papE, e1, e2, e3, e4]; rfl
        have HV := Lib.hid hv
        clear hv
        go_wp2_with (first | (go_at_call 57; refine (in_any _ _ _ _).mono ?_; rintro e w3 ⟨rfl, rfl⟩) | (go_at_call 56; refine (refName_any _ _ (by assumption)).mono ?_; rintro e w5 ⟨rfl, hb5⟩; obtain ⟨hc5, hfr5⟩ := bcell hb5; have hB5 : Below wr.heap.size wr w5 := belowT (by first | assumption | exact belowA (belowR _) _) hb5; have z5 : wr.heap.size ≤ w5.heap.size := hB5.size; have z5l : wr.heap.size < w5.heap.size := (by have := hb5.size; (try simp only [World.size_alloc] at this); omega)))
        have q2 : w5.cell? ⟨w.heap.size, 1, none⟩ = _ := keepC hB5 q1
        go_roundw
        case rel => exact ⟨k + 1, by omega, by go_num, q2, belowT hbw hB5, firstBad_succ HN.out (by rw [HE.out, HV.out])⟩
        case measure => simp [intOf]; omega
      · skip
        have hv : papE ⟨day, src, dst⟩ = 2 := by simp only [papE, e1, e2, e3, e4]; rfl
        have HV := Lib.hid hv
        clear hv
        go_wp2_with (first | (go_at_call 57; refine (in_any _ _ _ _).mono ?_; rintro e w3 ⟨rfl, rfl⟩) | (go_at_call 56; refine (refName_any _ _ (by assumption)).mono ?_; rintro e w5 ⟨rfl, hb5⟩; obtain ⟨hc5, hfr5⟩ := bcell hb5; have hB5 : Below wr.heap.size wr w5 := belowT (by first | assumption | exact belowA (belowR _) _) hb5; have z5 : wr.heap.size ≤ w5.heap.size := hB5.size; have z5l : wr.heap.size < w5.heap.size := (by have := hb5.size; (try simp only [World.size_alloc] at this); omega)))
        go_ret3
        exact ⟨by rw [HR.out, firstBad_at HN.out (by rw [HE.out, HV.out]; decide) hlt, HE.out, HV.out]; rfl, belowT hbw hB5⟩
    · go_wp2
      go_ret3
      obtain rfl : k = ps.length := by omega
      exact ⟨by rw [HR.out, HN.out]; rfl, hbw⟩
end Go.Proofs.Ytblbbhenmhkknaa
