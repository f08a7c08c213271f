/- claim.truth, whole; claim.Pays. -/
import Derived.Test.YtblbbhenmhkknaaW25
namespace Go.Proofs.Ytblbbhenmhkknaa
open Go.RowKit

/-- The claims of an estate in a truth. -/
def jl (cs : List Clm) (ds : List Int) : List Cl3 := justL (cs.map c3) fun i => ds.getD i 0
theorem jl_len (cs : List Clm) (ds : List Int) : (jl cs ds).length = cs.length := by simp [jl, justL]
theorem jl_at {cs : List Clm} {ds : List Int} {i : Nat} {c : Clm} (h : cs[i]? = some c) : (jl cs ds)[i]? = some ⟨c.rank, ds.getD i 0, ds.getD i 0⟩ := by
  simp [jl, justL, List.getElem?_mapIdx, h, c3]
structure TruthOk (lo hi : Int) (cs : List Clm) (P : Int) (ds : List Int) : Prop where
  est : estErr lo hi cs = 0
  len : ds.length = cs.length
  pro : lo ≤ P ∧ P ≤ hi
  cents : ∀ (i : Nat) (c : Clm) (d : Int), cs[i]? = some c → ds[i]? = some d → c.lo ≤ d ∧ d ≤ c.hi
theorem truthE_ok {lo hi : Int} {cs : List Clm} {P : Int} {ds : List Int} (h : truthE lo hi cs P ds = 0) : TruthOk lo hi cs P ds ∧ inB lo hi P = true ∧ centsOk (cs.map c3) ds cs.length = true := by
  unfold truthE at h
  by_cases h1 : estErr lo hi cs = 0
  · rw [if_pos h1] at h
    by_cases h2 : ds.length = cs.length
    · rw [if_pos h2] at h
      cases h3 : inB lo hi P
      · simp [h3] at h
      · cases h4 : centsOk (cs.map c3) ds cs.length
        · simp [h3, h4] at h
        · refine ⟨⟨h1, h2, inB_t h3, fun i c d hc hd => ?_⟩, rfl, rfl⟩
          unfold centsOk at h4
          rw [List.all_eq_true] at h4
          have := h4 i (List.mem_range.2 (List.getElem?_eq_some_iff.1 hc).1)
          rw [List.getElem?_map, hc, hd] at this
          exact inB_t (by simpa [c3] using this)
    · rw [if_neg h2] at h; cases h
  · rw [if_neg h1] at h; exact absurd h h1
theorem TruthOk.ok3 {lo hi : Int} {cs : List Clm} {P : Int} {ds : List Int} (h : TruthOk lo hi cs P ds) : C3Ok (jl cs ds) := by
  intro x hx
  obtain ⟨i, hi⟩ := List.getElem?_of_mem hx
  have hl := (List.getElem?_eq_some_iff.1 hi).1
  rw [jl_len] at hl
  obtain ⟨c, hc⟩ : ∃ c, cs[i]? = some c := ⟨_, List.getElem?_eq_getElem hl⟩
  obtain ⟨d, hd⟩ : ∃ d, ds[i]? = some d := ⟨_, List.getElem?_eq_getElem (by rw [h.len]; exact hl)⟩
  rw [jl_at hc] at hi
  injection hi with hi
  subst hi
  have h1 := (est_ok h.est).each c (List.mem_of_getElem? hc)
  have h2 := h.cents i c d hc hd
  have h3 : ds.getD i 0 = d := by rw [List.getD_eq_getElem?_getD, hd]; rfl
  simp only [h3]
  omega

theorem truth_no (lo hi : Int) (A D : Option Addr) (cs : List Clm) (B cap capD : Nat) (P : Int) (ds : List Int) (w : World) (hm : cs.length ≤ cap) (hcm : cap ≤ maxLen) (hok : ClmsOk cs) (hR : RdN 4 encClm w B A cs) (hB : B ≤ w.heap.size) (hD : Rd1 iv w B D ds) (hE : truthE lo hi cs P ds ≠ 0) :
    Calls Try.prog 73 #[.agg #[.int .i64 lo, .int .i64 hi, .slice A cs.length cap], .agg #[.int .i64 P, .slice D ds.length capD]] w (TruthNo (truthE lo hi cs P ds) w) := by
  unfold truthE at *
  by_cases h1 : estErr lo hi cs = 0
  · rw [if_pos h1] at hE ⊢
    by_cases h2 : ds.length = cs.length
    · rw [if_pos h2] at hE ⊢
      cases h3 : inB lo hi P
      · simp only [Bool.false_eq_true, if_false]
        exact truth_range lo hi A D cs B cap capD P ds w hm hcm hok hR hB h1 h2 h3
      · simp only [h3, if_true] at hE ⊢
        cases h4 : centsOk (cs.map c3) ds cs.length
        · simp only [Bool.false_eq_true, if_false]
          refine (truth_in lo hi A D cs B cap capD P ds w hm hcm hok hR hB h1 h2 h3 hD).mono ?_
          rintro e w' (⟨h, _⟩ | ⟨_, h⟩)
          · rw [h4] at h; cases h
          · exact h
        · rw [h4] at hE; simp at hE
    · rw [if_neg h2]
      exact truth_len lo hi A D cs B cap capD P ds w hm hcm hok hR hB h1 h2
  · rw [if_neg h1]
    exact truth_bad lo hi A D cs B cap capD P ds w hm hcm hok hR hB h1
theorem truth_yes (lo hi : Int) (A D : Option Addr) (cs : List Clm) (B cap capD : Nat) (P : Int) (ds : List Int) (w : World) (hm : cs.length ≤ cap) (hcm : cap ≤ maxLen) (hok : ClmsOk cs) (hR : RdN 4 encClm w B A cs) (hB : B ≤ w.heap.size) (hD : Rd1 iv w B D ds) (hE : truthE lo hi cs P ds = 0) :
    Calls Try.prog 73 #[.agg #[.int .i64 lo, .int .i64 hi, .slice A cs.length cap], .agg #[.int .i64 P, .slice D ds.length capD]] w (TruthYes cs ds w) := by
  obtain ⟨h, h3, h4⟩ := truthE_ok hE
  refine (truth_in lo hi A D cs B cap capD P ds w hm hcm hok hR hB h.est h.len h3 hD).mono ?_
  rintro e w' (⟨_, h⟩ | ⟨h, _⟩)
  · exact h
  · rw [h4] at h; cases h

def PaysYes (cs : List Clm) (P : Int) (ds : List Int) (w : World) (e : Ending) (w' : World) : Prop :=
  ∃ A cap, e = .returned (.tuple #[.slice A cs.length cap, iv (P - (pays (jl cs ds) P).sum), iv 0]) ∧ w'.ownsRow w.heap.size 3 1 (.slice A cs.length cap) cs.length ((pays (jl cs ds) P).map iv) ∧ Below w.heap.size w w'

set_option maxRecDepth 100000 in
set_option maxHeartbeats 1000000 in
theorem pays_no (lo hi : Int) (A D : Option Addr) (cs : List Clm) (B cap capD : Nat) (P : Int) (ds : List Int) (w : World) (hm : cs.length ≤ cap) (hcm : cap ≤ maxLen) (hok : ClmsOk cs) (hR : RdN 4 encClm w B A cs) (hB : B ≤ w.heap.size) (hD : Rd1 iv w B D ds) (hE : truthE lo hi cs P ds ≠ 0) :
    Calls Try.prog 28 #[.agg #[.int .i64 lo, .int .i64 hi, .slice A cs.length cap], .agg #[.int .i64 P, .slice D ds.length capD]] w fun e w' => e = .returned (.tuple #[.slice none 0 0, iv 0, iv (truthE lo hi cs P ds)]) ∧ Below w.heap.size w w' := by
  have hop := fun w (hR : RdN 4 encClm w B A cs) (hB : B ≤ w.heap.size) (hD : Rd1 iv w B D ds) => truth_no lo hi A D cs B cap capD P ds w hm hcm hok hR hB hD hE
  obtain ⟨E, hEE⟩ : ∃ E, truthE lo hi cs P ds = E := ⟨_, rfl⟩
  rw [hEE] at hE hop ⊢
  have hne : (E != 0) = true := by simpa using hE
  have HOP := Lib.hid hop
  clear hop hEE hE
  go_enter Try.func28, Try.ntmps28
  go_wp2_with fail
  have hb0 : Below w.heap.size w _ := belowA (belowA (belowR w) (.cells #[.int .i64 lo, .int .i64 hi, .slice A cs.length cap] 42)) (.cells #[.int .i64 P, .slice D ds.length capD] 44)
  refine (HOP.out _ (hR.below hb0 hB) (by simp; omega) (hD.below hb0 hB)).mono ?_
  rintro e w1 ⟨rfl, hb⟩
  have hB1 := belowT hb0 hb
  clear hb0 hb
  go_wp2
  go_ret3
  exact ⟨rfl, hB1⟩

set_option maxRecDepth 100000 in
set_option maxHeartbeats 1000000 in
theorem pays_yes (lo hi : Int) (A D : Option Addr) (cs : List Clm) (B cap capD : Nat) (P : Int) (ds : List Int) (w : World) (hm : cs.length ≤ cap) (hcm : cap ≤ maxLen) (hok : ClmsOk cs) (hR : RdN 4 encClm w B A cs) (hB : B ≤ w.heap.size) (hD : Rd1 iv w B D ds) (hE : truthE lo hi cs P ds = 0) :
    Calls Try.prog 28 #[.agg #[.int .i64 lo, .int .i64 hi, .slice A cs.length cap], .agg #[.int .i64 P, .slice D ds.length capD]] w (PaysYes cs P ds w) := by
  have hop := fun w (hR : RdN 4 encClm w B A cs) (hB : B ≤ w.heap.size) (hD : Rd1 iv w B D ds) => truth_yes lo hi A D cs B cap capD P ds w hm hcm hok hR hB hD hE
  obtain ⟨ht, _, _⟩ := truthE_ok hE
  have hest := est_ok ht.est
  have hok3 := ht.ok3
  have hp0 : 0 ≤ P := by have := hest.span; have := ht.pro; omega
  have hp9 : P ≤ 1000000000 := by have := hest.span; have := ht.pro; omega
  have hl9 : (jl cs ds).length ≤ 9 := by rw [jl_len]; have := hest.len; omega
  have hpy := fun w A capL (hR : RdN 3 encC3 w w.heap.size A (jl cs ds)) => pay_any A (jl cs ds) w.heap.size capL P w hl9 hp0 hp9 hok3 hR (Nat.le_refl _)
  unfold PayPost at hpy
  rw [jl_len] at hpy
  have HOP := Lib.hid hop
  have HPY := Lib.hid hpy
  clear hop hE ht hest hok3 hl9 hpy
  go_enter Try.func28, Try.ntmps28
  go_wp2_with fail
  have hb0 : Below w.heap.size w _ := belowA (belowA (belowR w) (.cells #[.int .i64 lo, .int .i64 hi, .slice A cs.length cap] 42)) (.cells #[.int .i64 P, .slice D ds.length capD] 44)
  refine (HOP.out _ (hR.below hb0 hB) (by simp; omega) (hD.below hb0 hB)).mono ?_
  rintro e w1 ⟨A1, cap1, rfl, hown, hb⟩
  have hB1 := belowT hb0 hb
  have q0 : w1.cell? ⟨w.heap.size + 1, 0, none⟩ = some (.int .i64 P) := keepC hb (by go_simp)
  have hrd : RdN 3 encC3 w1 w1.heap.size A1 (jl cs ds) := by
    have := hown
    rw [← jl_len cs ds] at this
    obtain ⟨A5, cap5, e5, hrd5, _⟩ := own_rdN enc3_len this
    injection e5 with e51 e52 e53
    subst e51
    exact hrd5
  have HRD := Lib.hid hrd
  clear hb0 hb hown hrd hR hD
  go_wp2_with fail
  refine (HPY.out _ _ _ HRD.out).mono ?_
  rintro e w2 ⟨A2, cap2, rfl, hown2, hb2⟩
  have hB2 := belowT hB1 hb2
  have hown3 := ownsRow_base2 hown2 hB1.size
  have HOWN := Lib.hid hown3
  clear hown2 hown3 hb2 q0
  go_wp2
  go_ret3
  exact ⟨A2, cap2, rfl, HOWN.out, hB2⟩
end Go.Proofs.Ytblbbhenmhkknaa
