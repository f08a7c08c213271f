/- BlockEasier: the plain law. No program is named here. -/
import Derived.Test.YtojgdallodmanaaZ0dff73
namespace Go.Proofs.Ytojgdallodmanaa
open Go.RowKit

/-- A part that is lighter by d. -/
def lightP (d : Nat) (p : Prt) : Prt := ⟨p.name, max 0 (p.lo - d), max 0 (p.hi - d)⟩
def strongH (h : Hul) (d : Nat) : Hul := ⟨h.ps, h.js, h.slo, h.shi, min 10000000 (h.winch + d)⟩
def dryH (h : Hul) (d : Nat) : Hul := ⟨h.ps, h.js, h.slo, max h.slo (h.shi - d), h.winch⟩
def lightH (h : Hul) (d : Nat) : Hul := ⟨h.ps.map (lightP d), h.js, h.slo, h.shi, h.winch⟩
section
variable {h : Hul} {l : List Wgh} {d : Nat}
theorem strong_pre (hp : openPre h l = 0) : openPre (strongH h d) l = 0 := by
  have hr := pre_right hp
  have := hr.w1
  have := hr.w2
  exact pre_with hp ⟨hr.n1, hr.n8, hr.s1, hr.s2, hr.s3, by simp only [strongH]; omega, by simp only [strongH]; omega, hr.fr, hr.ps, hr.js⟩ rfl rfl
theorem dry_pre (hp : openPre h l = 0) : openPre (dryH h d) l = 0 := by
  have hr := pre_right hp
  have := hr.s1
  have := hr.s2
  have := hr.s3
  exact pre_with hp ⟨hr.n1, hr.n8, hr.s1, by simp only [dryH]; omega, by simp only [dryH]; omega, hr.w1, hr.w2, hr.fr, hr.ps, hr.js⟩ rfl rfl
theorem light_names : (h.ps.map (lightP d)).map Prt.name = h.ps.map Prt.name := by
  rw [List.map_map]
  rfl
theorem light_psOk (hps : PsOk h.ps) : PsOk (h.ps.map (lightP d)) := by
  intro p hp
  obtain ⟨q, hq, rfl⟩ := List.mem_map.1 hp
  obtain ⟨a, b, c⟩ := hps q hq
  simp only [lightP]
  omega
theorem light_pre (hp : openPre h l = 0) : openPre (lightH h d) l = 0 := by
  have hr := pre_right hp
  have e : (h.ps.map (lightP d)).length = h.ps.length := List.length_map ..
  exact pre_with hp ⟨by simp only [lightH]; rw [e]; exact hr.n1, by simp only [lightH]; rw [e]; exact hr.n8, hr.s1, hr.s2, hr.s3, hr.w1, hr.w2, by simp only [lightH]; rw [light_names]; exact hr.fr, light_psOk hr.ps, by simp only [lightH]; rw [e]; exact hr.js⟩ e rfl
theorem light_noHeavier (hp : openPre h l = 0) : NoHeavier h [] (lightH h d) [] := by
  intro w hw
  have hps := (pre_right hp).ps
  refine ⟨fun i => (h.ps[i]?.map Prt.hi).getD 0, ⟨fun i p hi => ?_, fun x hx => by simp at hx⟩, fun s hs => sumTo_mono 8 fun i _ hb => ?_⟩
  · have := hps p (List.mem_of_getElem? hi)
    simp only [hi, Option.map_some, Option.getD_some]
    omega
  · have hi : i < h.ps.length := by
      rcases Nat.lt_or_ge i h.ps.length with h1 | h1
      · exact h1
      · exfalso
        rw [Nat.testBit_lt_two_pow (Nat.lt_of_lt_of_le hs (Nat.pow_le_pow_right (by decide) h1))] at hb
        cases hb
    have e1 := List.getElem?_eq_getElem hi
    have h1 := hw.1 i (lightP d h.ps[i]) (by simp only [lightH]; rw [List.getElem?_map, e1]; rfl)
    have h2 := hps h.ps[i] (List.getElem_mem hi)
    simp only [e1, Option.map_some, Option.getD_some]
    simp only [lightP] at h1
    omega
theorem feas_ps {h' : Hul} (e : h'.ps = h.ps) (hf : Feas h l) : Feas h' l := by unfold Feas at hf ⊢; rw [truth_ps e]; exact hf
theorem open_ok (hp : openPre h l = 0) (hf : Feas h l) : openE h l = 0 := openE_zero hp hf
/-- What the law says of the five answers. -/
theorem easier_law (ho : openE h l = 0) {d1 d2 d3 : Nat} {N N1 N2 N3 N4 : List Nd} (hN : IsTree h l N) (hN1 : IsTree (strongH h d1) l N1) (hN2 : IsTree (dryH h d2) l N2) (hN3 : IsTree h [] N3) (hN4 : IsTree (lightH h d3) [] N4) :
    ((fewOf h N).1 ≤ h.ps.length → (fewOf (strongH h d1) N1).1 ≤ (fewOf h N).1 ∧ (fewOf (dryH h d2) N2).1 ≤ (fewOf h N).1) ∧ ((fewOf h N3).1 ≤ h.ps.length → (fewOf (lightH h d3) N4).1 ≤ (fewOf h N3).1) := by
  obtain ⟨hp, hf⟩ := openE_zero_iff ho
  have hr := pre_right hp
  have hw1 := hr.w1
  have hw2 := hr.w2
  have hs1 := hr.s1
  have hs2 := hr.s2
  have hn := pre_nil hp
  have hl := light_pre (d := d3) hp
  refine ⟨fun hfew => ⟨?_, ?_⟩, fun hfew => ?_⟩
  · exact few_easier hp (strong_pre hp) hf (feas_ps (h := h) rfl hf) hN hN1 rfl rfl (NoHeavier.same rfl) (Int.le_refl _) (by simp only [strongH]; omega) hfew
  · exact few_easier hp (dry_pre hp) hf (feas_ps (h := h) rfl hf) hN hN2 rfl rfl (NoHeavier.same rfl) (by simp only [dryH]; omega) (Int.le_refl _) hfew
  · exact few_easier hn (pre_nil hl) (feas_nil hp) (feas_nil hl) hN3 hN4 (List.length_map ..) rfl (light_noHeavier hp) (Int.le_refl _) (Int.le_refl _) hfew
/-- What Fewest answered of a hull: a cut and its error. -/
def FewFact (h : Hul) (l : List Wgh) (q : List Nat) (E : Int) : Prop := ∃ N, IsTree h l N ∧ ((E = 9 ∧ h.ps.length < (fewOf h N).1 ∧ q = []) ∨ (E = 0 ∧ (fewOf h N).1 ≤ h.ps.length ∧ manyTo q q.length = (fewOf h N).1))
theorem fewFact (ho : openE h l = 0) {V : World} {e : Ending} {w' : World} (hpost : FewestPost h l V e w') : Below V.heap.size V w' ∧ ∃ (q : List Nat) (E : Int) (A : Option Addr) (c : Nat), e = .returned (.tuple #[.slice A q.length c, iv E]) ∧ Rd1 nv w' w'.heap.size A q ∧ q.length ≤ 8 ∧ (∀ x ∈ q, x < 8) ∧ FewFact h l q E := by
  obtain ⟨hb, N, q, E, A, c, hN, he, hr, h8, hx, hcase⟩ := fewCase ho hpost
  refine ⟨hb, q, E, A, c, he, hr, h8, hx, N, hN, ?_⟩
  rcases hcase with h1 | ⟨h1, h2, h3, _⟩
  · exact .inl h1
  · exact .inr ⟨h1, h2, h3⟩
theorem FewFact.err {q : List Nat} {E : Int} (H : FewFact h l q E) : E = 0 ∨ E = 9 := by
  obtain ⟨N, _, h1 | h1⟩ := H
  · exact .inr h1.1
  · exact .inl h1.1
theorem easier_facts (ho : openE h l = 0) {d1 d2 d3 : Nat} {q1 q2 q3 q4 q5 : List Nat} {E1 E2 E3 E4 E5 : Int} (H1 : FewFact h l q1 E1) (H2 : FewFact (strongH h d1) l q2 E2) (H3 : FewFact (dryH h d2) l q3 E3) (H4 : FewFact h [] q4 E4) (H5 : FewFact (lightH h d3) [] q5 E5) :
    (E1 = 0 → E2 = 0 ∧ E3 = 0 ∧ manyTo q2 q2.length ≤ manyTo q1 q1.length ∧ manyTo q3 q3.length ≤ manyTo q1 q1.length) ∧ (E4 = 0 → E5 = 0 ∧ manyTo q5 q5.length ≤ manyTo q4 q4.length) := by
  obtain ⟨N1, t1, c1⟩ := H1
  obtain ⟨N2, t2, c2⟩ := H2
  obtain ⟨N3, t3, c3⟩ := H3
  obtain ⟨N4, t4, c4⟩ := H4
  obtain ⟨N5, t5, c5⟩ := H5
  obtain ⟨a, b⟩ := easier_law ho t1 t2 t3 t4 t5
  have l2 : (strongH h d1).ps.length = h.ps.length := rfl
  have l3 : (dryH h d2).ps.length = h.ps.length := rfl
  have l5 : (lightH h d3).ps.length = h.ps.length := List.length_map ..
  rw [l2] at c2
  rw [l3] at c3
  rw [l5] at c5
  refine ⟨fun e => ?_, fun e => ?_⟩
  · have hl : (fewOf h N1).1 ≤ h.ps.length := by omega
    have := a hl
    omega
  · have hl : (fewOf h N4).1 ≤ h.ps.length := by omega
    have := b hl
    omega
end
end Go.Proofs.Ytojgdallodmanaa
