/- The contract of claim.CheckShip. -/
import Derived.Test.YtblbbhenmhkknaaW4
namespace Go.Proofs.Ytblbbhenmhkknaa
open Go.RowKit

/-- The error of a paper: 7 its day, 6 a name, 2 both the same, 0 none. -/
def papE (p : Pap) : Int := if inB 0 40000 p.day then (if nameB p.src && nameB p.dst then (if p.src.toList == p.dst.toList then 2 else 0) else 6) else 7
def papsE (ps : List Pap) (i : Nat) : Int := match ps[i]? with | some p => papE p | none => 0
def shipE (first : ByteArray) (ps : List Pap) (forged : Int) : Int × Int × Int :=
  if nameB first then (if ps.length ≤ 8 then (if inB 0 8 forged then (match firstBad (papsE ps) ps.length with | none => (0, 0, 0) | some (i, e) => (2, i, e)) else (1, 0, 7)) else (1, 0, 3)) else (1, 0, 6)
def ret3 (r : Int × Int × Int) : Value := .tuple #[iv r.1, iv r.2.1, iv r.2.2]
structure PapsOk (ps : List Pap) : Prop where
  src : ∀ p ∈ ps, p.src.size ≤ maxLen
  dst : ∀ p ∈ ps, p.dst.size ≤ maxLen

set_option maxRecDepth 100000 in
set_option maxHeartbeats 1000000 in
theorem checkShip_any (first : ByteArray) (A : Option Addr) (ps : List Pap) (B cap : Nat) (forged : Int) (w : World) (hf : first.size ≤ maxLen) (hm : ps.length ≤ maxLen) (hok : PapsOk ps) (hR : RdN 3 encPap w B A ps) (hB : B ≤ w.heap.size) :
    Calls Try.prog 17 #[.agg #[.string first, .slice A ps.length cap, .int .i64 forged]] w fun e w' => e = .returned (ret3 (shipE first ps forged)) ∧ Below w.heap.size w w' := by
  have hm' := hm
  unfold maxLen at hm'
  cases h1 : nameB first
  · have hr : shipE first ps forged = (1, 0, 6) := by simp [shipE, h1]
    have HR := Lib.hid hr
    clear hr
    go_enter Try.func17, Try.ntmps17
    go_wp2_with (go_at_call 54; refine (name_any _ _ (by assumption)).mono ?_; rintro e w1 ⟨rfl, hb⟩; obtain ⟨hc, hfr⟩ := bcell hb)
    go_ret3
    exact ⟨by rw [HR.out]; rfl, belowT (belowA (belowR _) _) hb⟩
  by_cases h2 : ps.length ≤ 8
  case neg =>
    have hr : shipE first ps forged = (1, 0, 3) := by simp [shipE, h1, h2]
    have HR := Lib.hid hr
    clear hr
    go_enter Try.func17, Try.ntmps17
    go_wp2_with (go_at_call 54; refine (name_any _ _ (by assumption)).mono ?_; rintro e w1 ⟨rfl, hb⟩; obtain ⟨hc, hfr⟩ := bcell hb)
    go_ret3
    exact ⟨by rw [HR.out]; rfl, belowT (belowA (belowR _) _) hb⟩
  cases h3 : inB 0 8 forged
  · have hr : shipE first ps forged = (1, 0, 7) := by simp [shipE, h1, h2, h3]
    have HR := Lib.hid hr
    clear hr
    go_enter Try.func17, Try.ntmps17
    go_wp2_with (first | (go_at_call 54; refine (name_any _ _ (by assumption)).mono ?_; rintro e w1 ⟨rfl, hb⟩; obtain ⟨hc, hfr⟩ := bcell hb; have hb1 := belowT (belowA (belowR _) _) hb; have hz : w.heap.size ≤ w1.heap.size := hb1.size; have hzl : w.heap.size < w1.heap.size := (by have := hb.size; simp only [World.size_alloc] at this; omega)) | (go_at_call 55; refine (out_one _ _ forged _ _ (by go_simp) (by simp)).mono ?_; rintro e w2 ⟨rfl, hb2⟩; obtain ⟨hc2, hfr2⟩ := bcell hb2; have hz2 := hb2.size; simp only [World.size_alloc] at hz2; have hb3 := belowT (belowA hb1 _) hb2))
    go_ret3
    exact ⟨by rw [HR.out]; rfl, hb3⟩
  have hr : shipE first ps forged = (match firstBad (papsE ps) ps.length with | none => (0, 0, 0) | some (i, e) => (2, i, e)) := by simp [shipE, h1, h2, h3]
  have HR := Lib.hid hr
  clear hr
  go_enter Try.func17, Try.ntmps17
  go_wp2_with (first | (go_at_call 54; refine (name_any _ _ (by assumption)).mono ?_; rintro e w1 ⟨rfl, hb⟩; obtain ⟨hc, hfr⟩ := bcell hb; have hb1 := belowT (belowA (belowR _) _) hb; have hz : w.heap.size ≤ w1.heap.size := hb1.size; have hzl : w.heap.size < w1.heap.size := (by have := hb.size; simp only [World.size_alloc] at this; omega)) | (go_at_call 55; refine (out_one _ _ forged _ _ (by go_simp) (by simp)).mono ?_; rintro e w2 ⟨rfl, hb2⟩; obtain ⟨hc2, hfr2⟩ := bcell hb2; have hz2 := hb2.size; simp only [World.size_alloc] at hz2; have hb3 := belowT (belowA hb1 _) hb2))
  go_loopw [25] (fun i wr => ∃ k : Nat, k ≤ ps.length ∧ i = .int .i64 k ∧ Below w.heap.size w wr ∧ firstBad (papsE ps) k = none) (fun i _ => ps.length - (intOf i).toNat)
  case atStart => exact ⟨0, Nat.zero_le _, rfl, hb3, rfl⟩
  case round =>
    clear hc hfr hz hzl hb1 hc2 hfr2 hz2 hb3 hb hb2
    obtain ⟨k, hk, rfl, hbw, hn⟩ := hrel
    have HN := Lib.hid hn
    clear hn
    have hzw := hbw.size
    by_cases hlt : k < ps.length
    · obtain ⟨p, hx⟩ : ∃ x, ps[k]? = some x := ⟨_, List.getElem?_eq_getElem hlt⟩
      obtain ⟨b, off, rfl, hbB, c0, c1, c2⟩ := papAt (hR.below hbw hB) hx
      have s1 := hok.src p (List.mem_of_getElem? hx)
      have s2 := hok.dst p (List.mem_of_getElem? hx)
      have he : papsE ps k = papE p := by simp [papsE, hx]
      obtain ⟨day, src, dst⟩ := p
      simp only at c0 c1 c2 s1 s2
      have HE := Lib.hid he
      have HOK := Lib.hid hok
      clear hx he hok
      cases e1 : inB 0 40000 day
      · skip
        have hv : papE ⟨day, src, dst⟩ = 7 := by simp [papE, e1]
        have HV := Lib.hid hv
        clear hv
        go_wp2_with (first | (go_at_call 55; refine (out_one _ _ day _ _ (by go_simp) (by simp)).mono ?_; rintro e w3 ⟨rfl, hb3⟩; obtain ⟨hc3, hfr3⟩ := bcell hb3; have hB3 : Below wr.heap.size wr w3 := belowT (belowA (belowA (belowR _) _) _) hb3; have z3 : wr.heap.size ≤ w3.heap.size := hB3.size; have z3l : wr.heap.size < w3.heap.size := (by have := hb3.size; simp only [World.size_alloc] at this; omega)) | (go_at_call 54; refine (name_any _ _ (by assumption)).mono ?_; rintro e w5 ⟨rfl, hb5⟩; obtain ⟨hc5, hfr5⟩ := bcell hb5; have hB5 : Below wr.heap.size wr w5 := belowT (by assumption) hb5; have z5 : wr.heap.size ≤ w5.heap.size := hB5.size; have z5l : wr.heap.size < w5.heap.size := (by have := hb5.size; omega)))
        go_ret3
        exact ⟨by rw [HR.out, firstBad_at HN.out (by rw [HE.out, HV.out]; decide) hlt, HE.out, HV.out]; rfl, belowT hbw hB3⟩
      cases e2 : nameB src
      · skip
        have hv : papE ⟨day, src, dst⟩ = 6 := by simp [papE, e1, e2]
        have HV := Lib.hid hv
        clear hv
        go_wp2_with (first | (go_at_call 55; refine (out_one _ _ day _ _ (by go_simp) (by simp)).mono ?_; rintro e w3 ⟨rfl, hb3⟩; obtain ⟨hc3, hfr3⟩ := bcell hb3; have hB3 : Below wr.heap.size wr w3 := belowT (belowA (belowA (belowR _) _) _) hb3; have z3 : wr.heap.size ≤ w3.heap.size := hB3.size; have z3l : wr.heap.size < w3.heap.size := (by have := hb3.size; simp only [World.size_alloc] at this; omega)) | (go_at_call 54; refine (name_any _ _ (by assumption)).mono ?_; rintro e w5 ⟨rfl, hb5⟩; obtain ⟨hc5, hfr5⟩ := bcell hb5; have hB5 : Below wr.heap.size wr w5 := belowT (by assumption) hb5; have z5 : wr.heap.size ≤ w5.heap.size := hB5.size; have z5l : wr.heap.size < w5.heap.size := (by have := hb5.size; omega)))
        go_ret3
        exact ⟨by rw [HR.out, firstBad_at HN.out (by rw [HE.out, HV.out]; decide) hlt, HE.out, HV.out]; rfl, belowT hbw hB5⟩
      cases e3 : nameB dst
      · skip
        have hv : papE ⟨day, src, dst⟩ = 6 := by simp [papE, e1, e2, e3]
        have HV := Lib.hid hv
        clear hv
        go_wp2_with (first | (go_at_call 55; refine (out_one _ _ day _ _ (by go_simp) (by simp)).mono ?_; rintro e w3 ⟨rfl, hb3⟩; obtain ⟨hc3, hfr3⟩ := bcell hb3; have hB3 : Below wr.heap.size wr w3 := belowT (belowA (belowA (belowR _) _) _) hb3; have z3 : wr.heap.size ≤ w3.heap.size := hB3.size; have z3l : wr.heap.size < w3.heap.size := (by have := hb3.size; simp only [World.size_alloc] at this; omega)) | (go_at_call 54; refine (name_any _ _ (by assumption)).mono ?_; rintro e w5 ⟨rfl, hb5⟩; obtain ⟨hc5, hfr5⟩ := bcell hb5; have hB5 : Below wr.heap.size wr w5 := belowT (by assumption) hb5; have z5 : wr.heap.size ≤ w5.heap.size := hB5.size; have z5l : wr.heap.size < w5.heap.size := (by have := hb5.size; omega)))
        go_ret3
        exact ⟨by rw [HR.out, firstBad_at HN.out (by rw [HE.out, HV.out]; decide) hlt, HE.out, HV.out]; rfl, belowT hbw hB5⟩
      cases e4 : (src.toList == dst.toList)
      · skip
        have hv : papE ⟨day, src, dst⟩ = 0 := by simp only [papE, e1, e2, e3, e4]; rfl
        have HV := Lib.hid hv
        clear hv
        go_wp2_with (first | (go_at_call 55; refine (out_one _ _ day _ _ (by go_simp) (by simp)).mono ?_; rintro e w3 ⟨rfl, hb3⟩; obtain ⟨hc3, hfr3⟩ := bcell hb3; have hB3 : Below wr.heap.size wr w3 := belowT (belowA (belowA (belowR _) _) _) hb3; have z3 : wr.heap.size ≤ w3.heap.size := hB3.size; have z3l : wr.heap.size < w3.heap.size := (by have := hb3.size; simp only [World.size_alloc] at this; omega)) | (go_at_call 54; refine (name_any _ _ (by assumption)).mono ?_; rintro e w5 ⟨rfl, hb5⟩; obtain ⟨hc5, hfr5⟩ := bcell hb5; have hB5 : Below wr.heap.size wr w5 := belowT (by assumption) hb5; have z5 : wr.heap.size ≤ w5.heap.size := hB5.size; have z5l : wr.heap.size < w5.heap.size := (by have := hb5.size; omega)))
        go_roundw
        case rel => exact ⟨k + 1, by omega, by go_num, belowT hbw hB5, firstBad_succ HN.out (by rw [HE.out, HV.out])⟩
        case measure => simp [intOf]; omega
      · skip
        have hv : papE ⟨day, src, dst⟩ = 2 := by simp only [papE, e1, e2, e3, e4]; rfl
        have HV := Lib.hid hv
        clear hv
        go_wp2_with (first | (go_at_call 55; refine (out_one _ _ day _ _ (by go_simp) (by simp)).mono ?_; rintro e w3 ⟨rfl, hb3⟩; obtain ⟨hc3, hfr3⟩ := bcell hb3; have hB3 : Below wr.heap.size wr w3 := belowT (belowA (belowA (belowR _) _) _) hb3; have z3 : wr.heap.size ≤ w3.heap.size := hB3.size; have z3l : wr.heap.size < w3.heap.size := (by have := hb3.size; simp only [World.size_alloc] at this; omega)) | (go_at_call 54; refine (name_any _ _ (by assumption)).mono ?_; rintro e w5 ⟨rfl, hb5⟩; obtain ⟨hc5, hfr5⟩ := bcell hb5; have hB5 : Below wr.heap.size wr w5 := belowT (by assumption) hb5; have z5 : wr.heap.size ≤ w5.heap.size := hB5.size; have z5l : wr.heap.size < w5.heap.size := (by have := hb5.size; omega)))
        go_ret3
        exact ⟨by rw [HR.out, firstBad_at HN.out (by rw [HE.out, HV.out]; decide) hlt, HE.out, HV.out]; rfl, belowT hbw hB5⟩
    · go_wp2
      go_ret3
      obtain rfl : k = ps.length := by omega
      exact ⟨by rw [HR.out, HN.out]; rfl, hbw⟩
end Go.Proofs.Ytblbbhenmhkknaa
