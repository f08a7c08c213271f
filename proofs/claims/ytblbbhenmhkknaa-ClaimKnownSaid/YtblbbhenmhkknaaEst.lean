/- What a valid estate is. No program is walked here. -/
import Derived.Test.YtblbbhenmhkknaaW23
namespace Go.Proofs.Ytblbbhenmhkknaa
open Go.RowKit

theorem rangeE_ok_iff {L H lo hi : Int} (h : rangeE L H lo hi = 0) : L ≤ lo ∧ lo ≤ hi ∧ hi ≤ H := by
  unfold rangeE at h
  cases h1 : inB L H lo
  · simp [h1] at h
  · cases h2 : inB L H hi
    · simp [h1, h2] at h
    · simp only [h1, h2, Bool.and_self, if_true] at h
      have a := inB_t h1
      have b := inB_t h2
      split at h
      · omega
      · omega
structure EstOk (lo hi : Int) (cs : List Clm) : Prop where
  span : 0 ≤ lo ∧ lo ≤ hi ∧ hi ≤ 1000000000
  len : 1 ≤ cs.length ∧ cs.length ≤ 8
  told : ∀ (i : Nat) (c : Clm), cs[i]? = some c → toldE (cs.take i) c = 0
  each : ∀ c ∈ cs, nameB c.name = true ∧ 1 ≤ c.rank ∧ c.rank ≤ 5 ∧ 0 ≤ c.lo ∧ c.lo ≤ c.hi ∧ c.hi ≤ 1000000000
theorem toldE_ok {l : List Clm} {c : Clm} (h : toldE l c = 0) : nameB c.name = true ∧ taken l c.name = false ∧ 1 ≤ c.rank ∧ c.rank ≤ 5 ∧ 0 ≤ c.lo ∧ c.lo ≤ c.hi ∧ c.hi ≤ 1000000000 := by
  unfold toldE at h
  cases h1 : nameB c.name
  · simp [h1] at h
  · cases h2 : taken l c.name
    · cases h3 : inB 1 5 c.rank
      · simp [h1, h2, h3] at h
      · simp only [h1, h2, h3, if_true, Bool.false_eq_true, if_false] at h
        have a := inB_t h3
        have b := rangeE_ok_iff h
        exact ⟨rfl, rfl, a.1, a.2, b.1, b.2.1, b.2.2⟩
    · simp [h1, h2] at h
theorem est_ok {lo hi : Int} {cs : List Clm} (h : estErr lo hi cs = 0) : EstOk lo hi cs := by
  unfold estErr estE at h
  by_cases h1 : rangeE 0 1000000000 lo hi = 0
  · cases h2 : inB 1 8 (cs.length : Int)
    · simp [h1, h2] at h
    · simp only [h1, h2, if_true] at h
      cases h3 : firstBad (toldAt cs) cs.length with
      | some p =>
        obtain ⟨i, e⟩ := p
        obtain ⟨a, _, _⟩ := firstBad_some h3
        rw [h3] at h
        exact absurd h a
      | none =>
        have ht : ∀ (i : Nat) (c : Clm), cs[i]? = some c → toldE (cs.take i) c = 0 := fun i c hc => by
          have := firstBad_none h3 (List.getElem?_eq_some_iff.1 hc).1
          simpa [toldAt, hc] using this
        have a := inB_t h2
        refine ⟨rangeE_ok_iff h1, by omega, ht, fun c hc => ?_⟩
        obtain ⟨i, hi⟩ := List.getElem?_of_mem hc
        have := toldE_ok (ht i c hi)
        exact ⟨this.1, this.2.2⟩
  · simp [h1] at h
theorem EstOk.ok3 {lo hi : Int} {cs : List Clm} (h : EstOk lo hi cs) : C3Ok (cs.map c3) := by
  intro c hc
  obtain ⟨x, hx, rfl⟩ := List.mem_map.1 hc
  have := h.each x hx
  show 1 ≤ x.rank ∧ x.rank ≤ 5 ∧ 0 ≤ x.lo ∧ x.lo ≤ 1000000000 ∧ 0 ≤ x.hi ∧ x.hi ≤ 1000000000
  omega
end Go.Proofs.Ytblbbhenmhkknaa
